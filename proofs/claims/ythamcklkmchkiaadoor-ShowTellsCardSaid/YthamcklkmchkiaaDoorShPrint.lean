/-
  DERIVED. LAYER 3 (ty), the reference's, walked: a type as text.
-/
import Derived.Test.YthamcklkmchkiaaDoorShTT
import Derived.Test.YthamcklkmchkiaaDoorShWrong
import Derived.Test.YthamcklkmchkiaaDoorShRef07
namespace Go.Proofs.YthamcklkmchkiaaDoor
open Go.RowKit
namespace Sh
open Gl
/-- All names are short. -/
def NamesOk (L : List TN) : Prop := ∀ n ∈ L, n.nm.size ≤ 1000
mutual
theorem print_len : ∀ (t : TT), NamesOk (flatTT t) → (printTT t).length + 1100 ≤ 2200 * (flatTT t).length
  | .mk n ts, h => by
    rw [flatTT] at h ⊢
    have hs : NamesOk (flatTTs ts) := fun x hx => h x (by simp [hx])
    rw [printTT, List.length_cons]
    split
    · have := arrow_len ts hs; omega
    · split
      · have := row_len [44, 32] (by decide) ts hs
        simp only [List.length_cons, List.length_append, List.length_nil]; omega
      · split
        · have := row_len [32, 124, 32] (by decide) ts hs
          simp only [List.length_cons, List.length_append, List.length_nil]; omega
        · unfold wordTx
          split
          · simp; omega
          · split
            · simp; omega
            · split
              · simp; omega
              · split <;> simp <;> omega
theorem arrow_len : ∀ (ts : List TT), NamesOk (flatTTs ts) → (arrowTT ts).length ≤ 2200 * (flatTTs ts).length
  | [], _ => by rw [arrowTT]; simp
  | a :: ts, h => by
    rw [flatTTs] at h ⊢
    have h1 := print_len a (fun x hx => h x (by simp [hx]))
    have h2 := last_len ts (fun x hx => h x (by simp [hx]))
    rw [arrowTT]
    split
    · simp only [List.length_cons, List.length_append, List.length_nil]; omega
    · simp only [List.length_cons, List.length_append, List.length_nil]; omega
theorem last_len : ∀ (ts : List TT), NamesOk (flatTTs ts) → (lastTT ts).length ≤ 2200 * (flatTTs ts).length
  | [], _ => by rw [lastTT]; simp
  | a :: ts, h => by
    rw [flatTTs] at h ⊢
    have h1 := print_len a (fun x hx => h x (by simp [hx]))
    rw [lastTT, List.length_append]
    omega
theorem row_len (sep : List UInt8) (hsep : sep.length ≤ 3) : ∀ (ts : List TT), NamesOk (flatTTs ts) → (rowTT sep ts).length ≤ 2200 * (flatTTs ts).length
  | [], _ => by rw [rowTT]; simp
  | a :: ts, h => by
    rw [flatTTs] at h ⊢
    have h1 := print_len a (fun x hx => h x (by simp [hx]))
    have h2 := tail_len sep hsep ts (fun x hx => h x (by simp [hx]))
    have h3 := h (rootTT a) (by rw [flatTT_eq]; simp)
    have h4 : (rootTT a).nm.data.toList.length = (rootTT a).nm.size := size_data _
    rw [rowTT]
    simp only [List.length_cons, List.length_append, List.length_nil]; omega
theorem tail_len (sep : List UInt8) (hsep : sep.length ≤ 3) : ∀ (ts : List TT), NamesOk (flatTTs ts) → (tailTT sep ts).length ≤ 2200 * (flatTTs ts).length
  | [], _ => by rw [tailTT]; simp
  | a :: ts, h => by
    rw [flatTTs] at h ⊢
    have h1 := print_len a (fun x hx => h x (by simp [hx]))
    have h2 := tail_len sep hsep ts (fun x hx => h x (by simp [hx]))
    have h3 := h (rootTT a) (by rw [flatTT_eq]; simp)
    have h4 : (rootTT a).nm.data.toList.length = (rootTT a).nm.size := size_data _
    rw [tailTT]
    simp only [List.length_cons, List.length_append, List.length_nil]; omega
end
mutual
theorem row_snoc (sep : List UInt8) : ∀ (ts : List TT) (a : TT), ts ≠ [] → rowTT sep (ts ++ [a]) = rowTT sep ts ++ (sep ++ ((rootTT a).nm.data.toList ++ ([58, 32] ++ printTT a)))
  | [], a, h => absurd rfl h
  | t :: ts, a, _ => by
    rw [List.cons_append, rowTT, rowTT, tail_snoc sep ts a]
    simp
theorem tail_snoc (sep : List UInt8) : ∀ (ts : List TT) (a : TT), tailTT sep (ts ++ [a]) = tailTT sep ts ++ (sep ++ ((rootTT a).nm.data.toList ++ ([58, 32] ++ printTT a)))
  | [], a => by
    rw [List.nil_append, tailTT, tailTT, tailTT]
    simp
  | t :: ts, a => by
    rw [List.cons_append, tailTT, tailTT, tail_snoc sep ts a]
    simp
end
theorem row_one (sep : List UInt8) (a : TT) : rowTT sep [a] = (rootTT a).nm.data.toList ++ ([58, 32] ++ printTT a) := by
  rw [rowTT, tailTT]; simp
theorem offs_at (L : List TN) : ∀ (ts : List TT) (i k : Nat) (a : TT) (rest : List TN), L.drop i = flatTTs ts ++ rest → ts[k]? = some a → ∃ p rest', (offs i ts)[k]? = some p ∧ L.drop p = flatTT a ++ rest'
  | [], i, k, a, rest, _, h => by simp at h
  | t :: ts, i, 0, a, rest, hd, h => by
    simp only [List.getElem?_cons_zero, Option.some.injEq] at h
    subst h
    rw [flatTTs, List.append_assoc] at hd
    exact ⟨i, _, rfl, hd⟩
  | t :: ts, i, k + 1, a, rest, hd, h => by
    rw [flatTTs, List.append_assoc] at hd
    have hd2 : L.drop (i + (flatTT t).length) = flatTTs ts ++ rest := by rw [← List.drop_drop, hd, List.drop_left]
    exact offs_at L ts _ k a rest hd2 (by simpa using h)
theorem flatTTs_take : ∀ (ts : List TT) (k : Nat), (flatTTs (ts.take k)).length ≤ (flatTTs ts).length ∧ ∀ x ∈ flatTTs (ts.take k), x ∈ flatTTs ts
  | [], k => by rw [List.take_nil]; exact ⟨Nat.le_refl _, fun x h => h⟩
  | t :: ts, 0 => by rw [List.take_zero, flatTTs]; exact ⟨Nat.zero_le _, fun x h => by simp at h⟩
  | t :: ts, k + 1 => by
    have h := flatTTs_take ts k
    rw [List.take_succ_cons, flatTTs, flatTTs, List.length_append, List.length_append]
    refine ⟨by omega, fun x hx => ?_⟩
    rcases List.mem_append.1 hx with hx | hx
    · exact List.mem_append_left _ hx
    · exact List.mem_append_right _ (h.2 x hx)
theorem flatTT_mem : ∀ (ts : List TT) (t : TT), t ∈ ts → (flatTT t).length ≤ (flatTTs ts).length ∧ ∀ x ∈ flatTT t, x ∈ flatTTs ts
  | [], t, h => by simp at h
  | u :: ts, t, h => by
    rw [flatTTs, List.length_append]
    rcases List.mem_cons.1 h with rfl | h
    · exact ⟨by omega, fun x hx => List.mem_append_left _ hx⟩
    · have := flatTT_mem ts t h
      exact ⟨by omega, fun x hx => List.mem_append_right _ (this.2 x hx)⟩
end Sh
namespace Shw
open Gl Glw Sh

set_option maxHeartbeats 1000000 in
set_option maxRecDepth 100000 in
theorem word03 (n : TN) (hk : 0 ≤ n.k ∧ n.k ≤ 4) (w : World) : Calls Tryd.prog 81 #[.agg #[.int .i64 n.k, .string n.nm, .int .i64 n.n]] w fun e w' => e = .returned (.string ⟨(wordTx n.k).toArray⟩) ∧ Below w.heap.size w w' := by
  have hb : Below w.heap.size w (w.alloc (.cells #[.int .i64 n.k, .string n.nm, .int .i64 n.n] 66)) := (Below.refl _ _).alloc (Nat.le_refl _) _
  have HB := Lib.hid hb
  clear hb
  by_cases h0 : n.k = 0
  · have q0 : (n.k == 0) = true := by rw [beq_iff_eq]; exact h0
    have HW := Lib.hid (show wordTx n.k = [63] by unfold wordTx; rw [if_pos h0])
    clear h0 hk
    go_enter Tryd.func81, Tryd.ntmps81
    go_wp2_with fail
    go_ret
    exact ⟨by rw [HW.out]; rfl, HB.out⟩
  · have q0 : (n.k == 0) = false := by rw [beq_eq_false_iff_ne]; exact h0
    by_cases h1 : n.k = 1
    · have q1 : (n.k == 1) = true := by rw [beq_iff_eq]; exact h1
      have HW := Lib.hid (show wordTx n.k = [105, 110, 116] by unfold wordTx; rw [if_neg h0, if_pos h1])
      clear h0 h1 hk
      go_enter Tryd.func81, Tryd.ntmps81
      go_wp2_with fail
      go_ret
      exact ⟨by rw [HW.out]; rfl, HB.out⟩
    · have q1 : (n.k == 1) = false := by rw [beq_eq_false_iff_ne]; exact h1
      by_cases h2 : n.k = 2
      · have q2 : (n.k == 2) = true := by rw [beq_iff_eq]; exact h2
        have HW := Lib.hid (show wordTx n.k = [98, 111, 111, 108] by unfold wordTx; rw [if_neg h0, if_neg h1, if_pos h2])
        clear h0 h1 h2 hk
        go_enter Tryd.func81, Tryd.ntmps81
        go_wp2_with fail
        go_ret
        exact ⟨by rw [HW.out]; rfl, HB.out⟩
      · have q2 : (n.k == 2) = false := by rw [beq_eq_false_iff_ne]; exact h2
        by_cases h3 : n.k = 3
        · have q3 : (n.k == 3) = true := by rw [beq_iff_eq]; exact h3
          have HW := Lib.hid (show wordTx n.k = [115, 116, 114, 105, 110, 103] by unfold wordTx; rw [if_neg h0, if_neg h1, if_neg h2, if_pos h3])
          clear h0 h1 h2 h3 hk
          go_enter Tryd.func81, Tryd.ntmps81
          go_wp2_with fail
          go_ret
          exact ⟨by rw [HW.out]; rfl, HB.out⟩
        · have q3 : (n.k == 3) = false := by rw [beq_eq_false_iff_ne]; exact h3
          have q4 : (n.k == 4) = true := by rw [beq_iff_eq]; omega
          have HW := Lib.hid (show wordTx n.k = [117, 110, 105, 116] by unfold wordTx; rw [if_neg h0, if_neg h1, if_neg h2, if_neg h3])
          clear h0 h1 h2 h3 hk
          go_enter Tryd.func81, Tryd.ntmps81
          go_wp2_with fail
          go_ret
          exact ⟨by rw [HW.out]; rfl, HB.out⟩

def TextPost (l : List UInt8) (w : World) (e : Ending) (w' : World) : Prop := e = .returned (.string ⟨l.toArray⟩) ∧ Below w.heap.size w w'
theorem text_post {l : List UInt8} {y : ByteArray} {w w' : World} (h : y.data.toList = l) (hb : Below w.heap.size w w') : TextPost l w (.returned (.string y)) w' := ⟨by rw [of_data h], hb⟩

set_option maxHeartbeats 8000000 in
set_option maxRecDepth 100000 in
theorem printed03 (b off cap : Nat) (L : List TN) (hL : L.length ≤ 1000) (hN : NamesOk L) (w0 : World) (hR : RdT w0 b off L) :
    ∀ (N i : Nat) (t : TT) (rest : List TN), okTT t → (flatTT t).length ≤ N → L.drop i = flatTT t ++ rest → ∀ w : World, Below w0.heap.size w0 w →
      Calls Tryd.prog 59 #[.slice (some ⟨b, off, none⟩) L.length cap, .int .i64 i] w (TextPost (printTT t) w) := by
  intro N
  induction N with
  | zero => intro i t rest _ h; rw [flatTT_eq] at h; simp at h
  | succ N ih =>
    intro i t rest hok hsz hd w hB
    have IH := Lib.hid ih
    clear ih
    obtain ⟨n, ts, rfl⟩ : ∃ n ts, t = .mk n ts := by cases t with | mk n ts => exact ⟨n, ts, rfl⟩
    have hi : i < L.length := by
      rcases Nat.lt_or_ge i L.length with h | h
      · exact h
      · rw [List.drop_of_length_le h, flatTT_eq] at hd; simp at hd
    have hRw := hR.since hR.1 hB
    have hn : L[i]? = some n := by
      rw [List.drop_eq_getElem_cons hi, flatTT, List.cons_append] at hd
      injection hd with h _
      rw [List.getElem?_eq_getElem hi, h]
    have hd1 : L.drop (i + 1) = flatTTs ts ++ rest := by
      rw [flatTT, List.cons_append] at hd
      rw [← List.drop_drop, hd]; rfl
    have hkt := kidsT_offs L (by omega) (.mk n ts) i rest hok hd
    have hki := Kids03 b off cap i L hi w hRw (by omega)
    rw [hkt, show subTT (.mk n ts) = ts from rfl] at hki
    have hnm : NamesOk (flatTT (.mk n ts)) := fun x hx => hN x (by
      have : x ∈ L.drop i := by rw [hd]; exact List.mem_append_left _ hx
      exact List.mem_of_mem_drop this)
    have hlen := print_len (.mk n ts) hnm
    have hfl : (flatTT (.mk n ts)).length ≤ 1000 := by
      have := congrArg List.length hd
      rw [List.length_drop, List.length_append] at this
      omega
    rw [okTT] at hok
    have hi0 : (0 : Int) ≤ i := by omega
    have qi0 : decide ((i : Int) < 0) = false := by simp
    have qi1 : decide (L.length ≤ i) = false := by simp; omega
    have hi1 : (i : Int) < L.length := by omega
    have HKI := Lib.hid hki
    have HR := Lib.hid hR
    have HB := Lib.hid hB
    have HN := Lib.hid hN
    have HNI := Lib.hid hn
    have HD1 := Lib.hid hd1
    have HOK := Lib.hid hok
    have HNM := Lib.hid hnm
    have HLEN := Lib.hid hlen
    have HFL := Lib.hid hfl
    have HSZ := Lib.hid hsz
    clear hRw hkt hki hR hB hN hn hd hd1 hok hnm hlen hfl hsz
    go_enter Tryd.func59, Tryd.ntmps59
    go_wp2_with fail
    refine HKI.out.mono ?_
    rintro e w1 ⟨v, rfl, hints, q1⟩
    dsimp only
    have hform : ∃ A c, v = .slice A (offs (i + 1) ts).length c := own_form hints
    obtain ⟨A, c, hv⟩ := hform
    rw [hv] at hints ⊢
    rw [offs_len]
    have hints' : Ints w1 w.heap.size (.slice A ts.length c) (offs (i + 1) ts) := by rw [← offs_len ts (i + 1)]; exact hints
    have HB1 := Lib.hid (HB.out.trans (q1.mono HB.out.size))
    have HX1 := Lib.hid q1
    have HI1 := Lib.hid hints'
    clear hv hints hints' q1 HKI
    obtain ⟨m, hm, a0, a1, a2⟩ := (HR.out.since HR.out.1 HB1.out).at_ hi
    have hmn : m = n := by
      have := HNI.out
      rw [hm] at this
      exact Option.some.inj this
    subst hmn
    clear hm
    by_cases h5 : m.k = 5
    · have q5 : (m.k == 5) = true := by rw [beq_iff_eq]; exact h5
      have hm2 : manyT m = 2 := by unfold manyT; rw [if_pos h5]
      have htl : ts.length = 2 := by have := HOK.out.2.1; omega
      obtain ⟨a, b', rfl⟩ : ∃ a b, ts = [a, b] := by
        match ts, htl with
        | [a, b], _ => exact ⟨a, b, rfl⟩
      have hH5 := Lib.hid h5
      clear hm2 htl h5
      have hok := HOK.out.2.2.2
      rw [okTTs, okTTs] at hok
      have hd1 := HD1.out
      rw [flatTTs, flatTTs, flatTTs, List.append_nil, List.append_assoc] at hd1
      obtain ⟨p1, hp1⟩ : ∃ p1, i + 1 = p1 := ⟨_, rfl⟩
      obtain ⟨p2, hp2⟩ : ∃ p2, p1 + (flatTT a).length = p2 := ⟨_, rfl⟩
      have hd2 : L.drop p2 = flatTT b' ++ rest := by rw [← hp2, ← List.drop_drop, ← hp1, hd1, List.drop_left]
      rw [hp1] at hd1
      have hoffs : offs (i + 1) [a, b'] = [p1, p2] := by rw [offs, offs, offs, hp1, hp2]
      have hints := HI1.out
      rw [hoffs] at hints
      have hsz2 : (flatTT a).length ≤ N ∧ (flatTT b').length ≤ N := by
        have := HSZ.out
        rw [flatTT, flatTTs, flatTTs, flatTTs, List.length_cons, List.length_append, List.length_append] at this
        omega
      have hnma : NamesOk (flatTT a) := fun x hx => HNM.out x (by rw [flatTT, flatTTs]; simp [hx])
      have hnmb : NamesOk (flatTT b') := fun x hx => HNM.out x (by rw [flatTT, flatTTs, flatTTs]; simp [hx])
      have hla := print_len a hnma
      have hlb := print_len b' hnmb
      have hfl := HFL.out
      rw [flatTT, flatTTs, flatTTs, flatTTs, List.length_cons, List.length_append, List.length_append] at hfl
      have hl1 : p1 < L.length := by
        rcases Nat.lt_or_ge p1 L.length with h | h
        · exact h
        · rw [List.drop_of_length_le h, flatTT_eq] at hd1; simp at hd1
      have hl2 : p2 < L.length := by
        rcases Nat.lt_or_ge p2 L.length with h | h
        · exact h
        · rw [List.drop_of_length_le h, flatTT_eq] at hd2; simp at hd2
      have hra : L[p1]? = some (rootTT a) := by
        rw [List.drop_eq_getElem_cons hl1, flatTT_eq, List.cons_append] at hd1
        injection hd1 with h _
        rw [List.getElem?_eq_getElem hl1, h]
      obtain ⟨g, cp, hA, hcp, hgb, hg, hc0⟩ := hints.at_ (i := 0) (p := p1) rfl
      obtain ⟨_, _, hA', -, -, -, hc1⟩ := hints.at_ (i := 1) (p := p2) rfl
      simp only [Value.slice.injEq] at hA hA'
      obtain ⟨rfl, -, rfl⟩ := hA
      obtain ⟨e1, -, -⟩ := hA'
      simp only [Option.some.injEq, Addr.mk.injEq, and_true] at e1
      subst e1
      obtain ⟨ya, hya⟩ : ∃ y : ByteArray, (⟨(printTT a).toArray⟩ : ByteArray) = y := ⟨_, rfl⟩
      obtain ⟨yb, hyb⟩ : ∃ y : ByteArray, (⟨(printTT b').toArray⟩ : ByteArray) = y := ⟨_, rfl⟩
      have hyal : ya.data.toList = printTT a := by rw [← hya]
      have hybl : yb.data.toList = printTT b' := by rw [← hyb]
      have sa : ya.size ≤ 3000000 := by rw [← size_data, hyal]; omega
      have sb : yb.size ≤ 3000000 := by rw [← size_data, hybl]; omega
      have hcA := fun w hB => IH.out p1 a (flatTT b' ++ rest) hok.1 hsz2.1 hd1 w hB
      have hcB := fun w hB => IH.out p2 b' rest hok.2.1 hsz2.2 hd2 w hB
      unfold TextPost at hcA hcB
      rw [hya] at hcA
      rw [hyb] at hcB
      have HCA := Lib.hid hcA
      have HCB := Lib.hid hcB
      have HYA := Lib.hid hyal
      have HYB := Lib.hid hybl
      have HRA := Lib.hid hra
      have hp10 : (0 : Int) ≤ p1 := by omega
      have hp11 : (p1 : Int) < L.length := by omega
      have HC0 := Lib.hid hc0
      have HC1 := Lib.hid hc1
      clear hok hd1 hp1 hp2 hd2 hoffs hints hsz2 hnma hnmb hla hlb hfl hra hya hyb hyal hybl hcA hcB IH
      go_wp2_with fail
      refine (HCA.out _ HB1.out).mono ?_
      rintro e w2 ⟨rfl, q2⟩
      dsimp only
      have HB2 := Lib.hid (HB1.out.trans (q2.mono HB1.out.size))
      have HX2 := Lib.hid (HX1.out.trans (q2.mono HX1.out.size))
      have d0 : w2.cell? ⟨g, 0, none⟩ = some (.int .i64 (p1 : Nat)) := (q2.cell (p := ⟨g, 0, none⟩) hg).trans HC0.out
      have d1 : w2.cell? ⟨g, 1, none⟩ = some (.int .i64 (p2 : Nat)) := (q2.cell (p := ⟨g, 1, none⟩) hg).trans HC1.out
      obtain ⟨x, hx, b0, -, -⟩ := (HR.out.since HR.out.1 HB2.out).at_ hl1
      have hxa : x = rootTT a := by
        have := HRA.out
        rw [hx] at this
        exact Option.some.inj this
      rw [hxa] at b0
      clear hx hxa q2 hc0 hc1 a0 a1 a2
      by_cases ha5 : (rootTT a).k = 5
      · have qa : ((rootTT a).k == 5) = true := by rw [beq_iff_eq]; exact ha5
        have HA5 := Lib.hid ha5
        have f1 : (9223372036854775807 < 1 + ya.size) = False := by simp; omega
        obtain ⟨A1, hA1⟩ : ∃ A1, (⟨#[40]⟩ : ByteArray) ++ ya = A1 := ⟨_, rfl⟩
        have s1 : A1.size = 1 + ya.size := by rw [← hA1, ByteArray.size_append]; rfl
        have f2 : (9223372036854775807 < A1.size + 1) = False := by simp; omega
        obtain ⟨A2, hA2⟩ : ∃ A2, A1 ++ (⟨#[41]⟩ : ByteArray) = A2 := ⟨_, rfl⟩
        have s2 : A2.size = A1.size + 1 := by rw [← hA2, ByteArray.size_append]; rfl
        have f3 : (9223372036854775807 < A2.size + 4) = False := by simp; omega
        obtain ⟨A3, hA3⟩ : ∃ A3, A2 ++ (⟨#[32, 45, 62, 32]⟩ : ByteArray) = A3 := ⟨_, rfl⟩
        have s3 : A3.size = A2.size + 4 := by rw [← hA3, ByteArray.size_append]; rfl
        have f4 : (9223372036854775807 < A3.size + yb.size) = False := by simp; omega
        have hfin : (A3 ++ yb).data.toList = printTT (.mk m [a, b']) := by
          rw [app_data, ← hA3, app_data, ← hA2, app_data, ← hA1, app_data, HYA.out, HYB.out, printTT, if_pos hH5.out, arrowTT, if_pos ha5, lastTT]
          simp
        have HFIN := Lib.hid hfin
        clear ha5 s1 s2 s3 hfin
        go_wp2_with fail
        refine (HCB.out _ HB2.out).mono ?_
        rintro e w3 ⟨rfl, q3⟩
        dsimp only
        have HX3 := Lib.hid (HX2.out.trans (q3.mono HX2.out.size))
        clear q3
        go_wp2_with fail
        go_ret
        exact text_post HFIN.out HX3.out
      · have qa : ((rootTT a).k == 5) = false := by rw [beq_eq_false_iff_ne]; exact ha5
        have f3 : (9223372036854775807 < ya.size + 4) = False := by simp; omega
        obtain ⟨A3, hA3⟩ : ∃ A3, ya ++ (⟨#[32, 45, 62, 32]⟩ : ByteArray) = A3 := ⟨_, rfl⟩
        have s3 : A3.size = ya.size + 4 := by rw [← hA3, ByteArray.size_append]; rfl
        have f4 : (9223372036854775807 < A3.size + yb.size) = False := by simp; omega
        have hfin : (A3 ++ yb).data.toList = printTT (.mk m [a, b']) := by
          rw [app_data, ← hA3, app_data, HYA.out, HYB.out, printTT, if_pos hH5.out, arrowTT, if_neg ha5, lastTT]
          simp
        have HFIN := Lib.hid hfin
        clear ha5 s3 hfin
        go_wp2_with fail
        refine (HCB.out _ HB2.out).mono ?_
        rintro e w3 ⟨rfl, q3⟩
        dsimp only
        have HX3 := Lib.hid (HX2.out.trans (q3.mono HX2.out.size))
        clear q3
        go_wp2_with fail
        go_ret
        exact text_post HFIN.out HX3.out
    · have q5 : (m.k == 5) = false := by rw [beq_eq_false_iff_ne]; exact h5
      by_cases h6 : m.k = 6
      · have q6 : (m.k != 6) = false := by rw [bne_eq_false_iff_eq]; exact h6
        have q7 : (m.k == 7) = false := by rw [beq_eq_false_iff_ne]; omega
        have hpt : printTT (.mk m ts) = 123 :: (rowTT [44, 32] ts ++ [125]) := by rw [printTT, if_neg h5, if_pos h6]
        clear h5 h6
        have HPT := Lib.hid hpt
        have htl : ts.length ≤ 50 := by have := numMany HOK.out.1; have := HOK.out.2.1; omega
        clear hpt
        go_wp2_with fail
        go_loopw [10, 11] (fun o i wr => ∃ (k : Nat) (O : ByteArray), o = .string O ∧ i = .int .i64 k ∧ k ≤ ts.length ∧ O.data.toList = 123 :: rowTT [44, 32] (ts.take k) ∧ Below w1.heap.size w1 wr) (fun _ i _ => ts.length - (intOf i).toNat)
        case atStart => exact ⟨0, ⟨#[123]⟩, rfl, rfl, Nat.zero_le _, by rw [List.take_zero, rowTT], Below.refl _ _⟩
        case round =>
          obtain ⟨k, O, rfl, rfl, hk, hO, hBr⟩ := hrel
          have HO := Lib.hid hO
          have HBr := Lib.hid hBr
          have HXr := Lib.hid (HX1.out.trans (hBr.mono HX1.out.size))
          have HB0 := Lib.hid (HB1.out.trans (hBr.mono HB1.out.size))
          have hOs : O.size ≤ 2300000 := by
            have h1 := row_len [44, 32] (by decide) (ts.take k) (fun x hx => HNM.out x (by rw [flatTT]; exact List.mem_cons_of_mem _ ((flatTTs_take ts k).2 x hx)))
            have h2 := (flatTTs_take ts k).1
            have h3 := HFL.out
            rw [flatTT, List.length_cons] at h3
            have h4 := congrArg List.length hO
            rw [size_data, List.length_cons] at h4
            omega
          clear hO hBr
          by_cases hlt : k < ts.length
          · obtain ⟨a, ha⟩ : ∃ a, ts[k]? = some a := ⟨_, List.getElem?_eq_getElem hlt⟩
            obtain ⟨p, rest', hp, hdp⟩ := offs_at L ts (i + 1) k a rest HD1.out ha
            have ham : a ∈ ts := List.mem_of_getElem? ha
            have hmm := flatTT_mem ts a ham
            have hszk : (flatTT a).length ≤ N := by
              have := HSZ.out
              rw [flatTT, List.length_cons] at this
              omega
            have hoka := okTTs_mem HOK.out.2.2.2 a ham
            have hpl : p < L.length := by
              rcases Nat.lt_or_ge p L.length with h | h
              · exact h
              · rw [List.drop_of_length_le h, flatTT_eq] at hdp; simp at hdp
            have hra : L[p]? = some (rootTT a) := by
              rw [List.drop_eq_getElem_cons hpl, flatTT_eq, List.cons_append] at hdp
              injection hdp with h _
              rw [List.getElem?_eq_getElem hpl, h]
            have hla := print_len a (fun x hx => HNM.out x (by rw [flatTT]; exact List.mem_cons_of_mem _ (hmm.2 x hx)))
            have hfl : (flatTT a).length ≤ 1000 := by
              have := HFL.out
              rw [flatTT, List.length_cons] at this
              omega
            have hnma : (rootTT a).nm.size ≤ 1000 := HNM.out _ (by rw [flatTT]; exact List.mem_cons_of_mem _ (hmm.2 _ (by rw [flatTT_eq]; simp)))
            have hk9 : (rootTT a).k ≠ 9 := by
              cases a with
              | mk x xs => rw [okTT] at hoka; exact hoka.2.2.1.2
            obtain ⟨g, cp, hA, hcp, hgb, hg, hc0⟩ := HI1.out.at_ hp
            rw [offs_len] at hA
            simp only [Value.slice.injEq, true_and] at hA
            obtain ⟨rfl, rfl⟩ := hA
            have hgr : g < wr.heap.size := Nat.lt_of_lt_of_le hg HBr.out.size
            have d0 : wr.cell? ⟨g, k, none⟩ = some (.int .i64 (p : Nat)) := (HBr.out.cell (p := ⟨g, k, none⟩) hg).trans hc0
            obtain ⟨x, hx, b0, b1, -⟩ := (HR.out.since HR.out.1 HB0.out).at_ hpl
            have hxa : x = rootTT a := by
              rw [hx] at hra
              exact Option.some.inj hra
            rw [hxa] at b0 b1
            obtain ⟨ya, hya⟩ : ∃ y : ByteArray, (⟨(printTT a).toArray⟩ : ByteArray) = y := ⟨_, rfl⟩
            have hyal : ya.data.toList = printTT a := by rw [← hya]
            have sa : ya.size ≤ 3000000 := by rw [← size_data, hyal]; omega
            have hcA := IH.out p a rest' hoka hszk hdp wr HB0.out
            unfold TextPost at hcA
            rw [hya] at hcA
            have HCA := Lib.hid hcA
            have HYA := Lib.hid hyal
            have hk0 : (0 : Int) ≤ k := by omega
            have hlt' : (k : Int) < ts.length := by omega
            have hp10 : (0 : Int) ≤ p := by omega
            have hp11 : (p : Int) < L.length := by omega
            have q9 : ((rootTT a).k != 9) = true := by rw [bne_iff_ne]; exact hk9
            have htk : ts.take (k + 1) = ts.take k ++ [a] := by rw [List.take_add_one, ha]; rfl
            have HTK := Lib.hid htk
            obtain ⟨nm, hnm⟩ : ∃ nm, (rootTT a).nm = nm := ⟨_, rfl⟩
            rw [hnm] at b1 hnma
            have HNMA := Lib.hid hnm
            clear ha hp hdp ham hmm hszk hoka hra hla hfl hk9 hc0 hx hxa hya hyal hcA htk hnm
            by_cases hkz : k = 0
            · have qk : decide (0 < k) = false := by simp; omega
              have HKZ := Lib.hid hkz
              clear hkz
              have f2 : (9223372036854775807 < O.size + nm.size) = False := by simp; omega
              obtain ⟨A2, hA2⟩ : ∃ A2, O ++ nm = A2 := ⟨_, rfl⟩
              have s2 : A2.size = O.size + nm.size := by rw [← hA2, ByteArray.size_append]
              have f3 : (9223372036854775807 < A2.size + 2) = False := by simp; omega
              obtain ⟨A3, hA3⟩ : ∃ A3, A2 ++ (⟨#[58, 32]⟩ : ByteArray) = A3 := ⟨_, rfl⟩
              have s3 : A3.size = A2.size + 2 := by rw [← hA3, ByteArray.size_append]; rfl
              have f4 : (9223372036854775807 < A3.size + ya.size) = False := by simp; omega
              obtain ⟨A4, hA4⟩ : ∃ A4, A3 ++ ya = A4 := ⟨_, rfl⟩
              have hfin : A4.data.toList = 123 :: rowTT [44, 32] (ts.take (k + 1)) := by
                rw [← hA4, app_data, ← hA3, app_data, ← hA2, app_data, HO.out, HYA.out, HTK.out, HKZ.out, List.take_zero, List.nil_append, row_one, rowTT, HNMA.out]
                simp
              have HFIN := Lib.hid hfin
              clear s2 s3 hfin
              go_wp2_with fail
              refine HCA.out.mono ?_
              rintro e w4 ⟨rfl, q4⟩
              dsimp only
              have HB4 := Lib.hid (HBr.out.trans (q4.mono HBr.out.size))
              clear q4
              go_wp2_with fail
              exact ⟨⟨k + 1, A4, rfl, by simp, by omega, HFIN.out, HB4.out⟩, by simp [intOf]; omega⟩
            · have qk : decide (0 < k) = true := by simp; omega
              have hk00 : 0 < k := by omega
              have htne : ts.take k ≠ [] := by
                intro e
                have := congrArg List.length e
                rw [List.length_take, List.length_nil] at this
                omega
              have f1 : (9223372036854775807 < O.size + 2) = False := by simp; omega
              obtain ⟨A1, hA1⟩ : ∃ A1, O ++ (⟨#[44, 32]⟩ : ByteArray) = A1 := ⟨_, rfl⟩
              have s1 : A1.size = O.size + 2 := by rw [← hA1, ByteArray.size_append]; rfl
              have f2 : (9223372036854775807 < A1.size + nm.size) = False := by simp; omega
              obtain ⟨A2, hA2⟩ : ∃ A2, A1 ++ nm = A2 := ⟨_, rfl⟩
              have s2 : A2.size = A1.size + nm.size := by rw [← hA2, ByteArray.size_append]
              have f3 : (9223372036854775807 < A2.size + 2) = False := by simp; omega
              obtain ⟨A3, hA3⟩ : ∃ A3, A2 ++ (⟨#[58, 32]⟩ : ByteArray) = A3 := ⟨_, rfl⟩
              have s3 : A3.size = A2.size + 2 := by rw [← hA3, ByteArray.size_append]; rfl
              have f4 : (9223372036854775807 < A3.size + ya.size) = False := by simp; omega
              obtain ⟨A4, hA4⟩ : ∃ A4, A3 ++ ya = A4 := ⟨_, rfl⟩
              have hfin : A4.data.toList = 123 :: rowTT [44, 32] (ts.take (k + 1)) := by
                rw [← hA4, app_data, ← hA3, app_data, ← hA2, app_data, ← hA1, app_data, HO.out, HYA.out, HTK.out, row_snoc _ _ _ htne, HNMA.out]
                simp
              have HFIN := Lib.hid hfin
              clear s1 s2 s3 hfin hkz htne
              go_wp2_with fail
              refine HCA.out.mono ?_
              rintro e w4 ⟨rfl, q4⟩
              dsimp only
              have HB4 := Lib.hid (HBr.out.trans (q4.mono HBr.out.size))
              clear q4
              go_wp2_with fail
              exact ⟨⟨k + 1, A4, rfl, by simp, by omega, HFIN.out, HB4.out⟩, by simp [intOf]; omega⟩
          · obtain rfl : k = ts.length := by omega
            have f1 : (9223372036854775807 < O.size + 1) = False := by simp; omega
            have hfin : (O ++ (⟨#[125]⟩ : ByteArray)).data.toList = printTT (.mk m ts) := by
              rw [app_data, HO.out, List.take_length, HPT.out]; rfl
            have HFIN := Lib.hid hfin
            clear hfin
            go_wp2_with fail
            go_ret
            exact text_post HFIN.out HXr.out
      · by_cases h7 : m.k = 7
        · have q6 : (m.k != 6) = true := by rw [bne_iff_ne]; exact h6
          have q7 : (m.k != 7) = false := by rw [bne_eq_false_iff_eq]; exact h7
          have q7' : (m.k == 7) = true := by rw [beq_iff_eq]; exact h7
          have hpt : printTT (.mk m ts) = 91 :: (rowTT [32, 124, 32] ts ++ [93]) := by rw [printTT, if_neg h5, if_neg h6, if_pos h7]
          clear h5 h6 h7
          have HPT := Lib.hid hpt
          have htl : ts.length ≤ 50 := by have := numMany HOK.out.1; have := HOK.out.2.1; omega
          clear hpt
          go_wp2_with fail
          go_loopw [10, 11] (fun o i wr => ∃ (k : Nat) (O : ByteArray), o = .string O ∧ i = .int .i64 k ∧ k ≤ ts.length ∧ O.data.toList = 91 :: rowTT [32, 124, 32] (ts.take k) ∧ Below w1.heap.size w1 wr) (fun _ i _ => ts.length - (intOf i).toNat)
          case atStart => exact ⟨0, ⟨#[91]⟩, rfl, rfl, Nat.zero_le _, by rw [List.take_zero, rowTT], Below.refl _ _⟩
          case round =>
            obtain ⟨k, O, rfl, rfl, hk, hO, hBr⟩ := hrel
            have HO := Lib.hid hO
            have HBr := Lib.hid hBr
            have HXr := Lib.hid (HX1.out.trans (hBr.mono HX1.out.size))
            have HB0 := Lib.hid (HB1.out.trans (hBr.mono HB1.out.size))
            have hOs : O.size ≤ 2300000 := by
              have h1 := row_len [32, 124, 32] (by decide) (ts.take k) (fun x hx => HNM.out x (by rw [flatTT]; exact List.mem_cons_of_mem _ ((flatTTs_take ts k).2 x hx)))
              have h2 := (flatTTs_take ts k).1
              have h3 := HFL.out
              rw [flatTT, List.length_cons] at h3
              have h4 := congrArg List.length hO
              rw [size_data, List.length_cons] at h4
              omega
            clear hO hBr
            by_cases hlt : k < ts.length
            · obtain ⟨a, ha⟩ : ∃ a, ts[k]? = some a := ⟨_, List.getElem?_eq_getElem hlt⟩
              obtain ⟨p, rest', hp, hdp⟩ := offs_at L ts (i + 1) k a rest HD1.out ha
              have ham : a ∈ ts := List.mem_of_getElem? ha
              have hmm := flatTT_mem ts a ham
              have hszk : (flatTT a).length ≤ N := by
                have := HSZ.out
                rw [flatTT, List.length_cons] at this
                omega
              have hoka := okTTs_mem HOK.out.2.2.2 a ham
              have hpl : p < L.length := by
                rcases Nat.lt_or_ge p L.length with h | h
                · exact h
                · rw [List.drop_of_length_le h, flatTT_eq] at hdp; simp at hdp
              have hra : L[p]? = some (rootTT a) := by
                rw [List.drop_eq_getElem_cons hpl, flatTT_eq, List.cons_append] at hdp
                injection hdp with h _
                rw [List.getElem?_eq_getElem hpl, h]
              have hla := print_len a (fun x hx => HNM.out x (by rw [flatTT]; exact List.mem_cons_of_mem _ (hmm.2 x hx)))
              have hfl : (flatTT a).length ≤ 1000 := by
                have := HFL.out
                rw [flatTT, List.length_cons] at this
                omega
              have hnma : (rootTT a).nm.size ≤ 1000 := HNM.out _ (by rw [flatTT]; exact List.mem_cons_of_mem _ (hmm.2 _ (by rw [flatTT_eq]; simp)))
              have hk9 : (rootTT a).k ≠ 9 := by
                cases a with
                | mk x xs => rw [okTT] at hoka; exact hoka.2.2.1.2
              obtain ⟨g, cp, hA, hcp, hgb, hg, hc0⟩ := HI1.out.at_ hp
              rw [offs_len] at hA
              simp only [Value.slice.injEq, true_and] at hA
              obtain ⟨rfl, rfl⟩ := hA
              have hgr : g < wr.heap.size := Nat.lt_of_lt_of_le hg HBr.out.size
              have d0 : wr.cell? ⟨g, k, none⟩ = some (.int .i64 (p : Nat)) := (HBr.out.cell (p := ⟨g, k, none⟩) hg).trans hc0
              obtain ⟨x, hx, b0, b1, -⟩ := (HR.out.since HR.out.1 HB0.out).at_ hpl
              have hxa : x = rootTT a := by
                rw [hx] at hra
                exact Option.some.inj hra
              rw [hxa] at b0 b1
              obtain ⟨ya, hya⟩ : ∃ y : ByteArray, (⟨(printTT a).toArray⟩ : ByteArray) = y := ⟨_, rfl⟩
              have hyal : ya.data.toList = printTT a := by rw [← hya]
              have sa : ya.size ≤ 3000000 := by rw [← size_data, hyal]; omega
              have hcA := IH.out p a rest' hoka hszk hdp wr HB0.out
              unfold TextPost at hcA
              rw [hya] at hcA
              have HCA := Lib.hid hcA
              have HYA := Lib.hid hyal
              have hk0 : (0 : Int) ≤ k := by omega
              have hlt' : (k : Int) < ts.length := by omega
              have hp10 : (0 : Int) ≤ p := by omega
              have hp11 : (p : Int) < L.length := by omega
              have q9 : ((rootTT a).k != 9) = true := by rw [bne_iff_ne]; exact hk9
              have htk : ts.take (k + 1) = ts.take k ++ [a] := by rw [List.take_add_one, ha]; rfl
              have HTK := Lib.hid htk
              obtain ⟨nm, hnm⟩ : ∃ nm, (rootTT a).nm = nm := ⟨_, rfl⟩
              rw [hnm] at b1 hnma
              have HNMA := Lib.hid hnm
              clear ha hp hdp ham hmm hszk hoka hra hla hfl hk9 hc0 hx hxa hya hyal hcA htk hnm
              by_cases hkz : k = 0
              · have qk : decide (0 < k) = false := by simp; omega
                have HKZ := Lib.hid hkz
                clear hkz
                have f2 : (9223372036854775807 < O.size + nm.size) = False := by simp; omega
                obtain ⟨A2, hA2⟩ : ∃ A2, O ++ nm = A2 := ⟨_, rfl⟩
                have s2 : A2.size = O.size + nm.size := by rw [← hA2, ByteArray.size_append]
                have f3 : (9223372036854775807 < A2.size + 2) = False := by simp; omega
                obtain ⟨A3, hA3⟩ : ∃ A3, A2 ++ (⟨#[58, 32]⟩ : ByteArray) = A3 := ⟨_, rfl⟩
                have s3 : A3.size = A2.size + 2 := by rw [← hA3, ByteArray.size_append]; rfl
                have f4 : (9223372036854775807 < A3.size + ya.size) = False := by simp; omega
                obtain ⟨A4, hA4⟩ : ∃ A4, A3 ++ ya = A4 := ⟨_, rfl⟩
                have hfin : A4.data.toList = 91 :: rowTT [32, 124, 32] (ts.take (k + 1)) := by
                  rw [← hA4, app_data, ← hA3, app_data, ← hA2, app_data, HO.out, HYA.out, HTK.out, HKZ.out, List.take_zero, List.nil_append, row_one, rowTT, HNMA.out]
                  simp
                have HFIN := Lib.hid hfin
                clear s2 s3 hfin
                go_wp2_with fail
                refine HCA.out.mono ?_
                rintro e w4 ⟨rfl, q4⟩
                dsimp only
                have HB4 := Lib.hid (HBr.out.trans (q4.mono HBr.out.size))
                clear q4
                go_wp2_with fail
                exact ⟨⟨k + 1, A4, rfl, by simp, by omega, HFIN.out, HB4.out⟩, by simp [intOf]; omega⟩
              · have qk : decide (0 < k) = true := by simp; omega
                have hk00 : 0 < k := by omega
                have htne : ts.take k ≠ [] := by
                  intro e
                  have := congrArg List.length e
                  rw [List.length_take, List.length_nil] at this
                  omega
                have f1 : (9223372036854775807 < O.size + 3) = False := by simp; omega
                obtain ⟨A1, hA1⟩ : ∃ A1, O ++ (⟨#[32, 124, 32]⟩ : ByteArray) = A1 := ⟨_, rfl⟩
                have s1 : A1.size = O.size + 3 := by rw [← hA1, ByteArray.size_append]; rfl
                have f2 : (9223372036854775807 < A1.size + nm.size) = False := by simp; omega
                obtain ⟨A2, hA2⟩ : ∃ A2, A1 ++ nm = A2 := ⟨_, rfl⟩
                have s2 : A2.size = A1.size + nm.size := by rw [← hA2, ByteArray.size_append]
                have f3 : (9223372036854775807 < A2.size + 2) = False := by simp; omega
                obtain ⟨A3, hA3⟩ : ∃ A3, A2 ++ (⟨#[58, 32]⟩ : ByteArray) = A3 := ⟨_, rfl⟩
                have s3 : A3.size = A2.size + 2 := by rw [← hA3, ByteArray.size_append]; rfl
                have f4 : (9223372036854775807 < A3.size + ya.size) = False := by simp; omega
                obtain ⟨A4, hA4⟩ : ∃ A4, A3 ++ ya = A4 := ⟨_, rfl⟩
                have hfin : A4.data.toList = 91 :: rowTT [32, 124, 32] (ts.take (k + 1)) := by
                  rw [← hA4, app_data, ← hA3, app_data, ← hA2, app_data, ← hA1, app_data, HO.out, HYA.out, HTK.out, row_snoc _ _ _ htne, HNMA.out]
                  simp
                have HFIN := Lib.hid hfin
                clear s1 s2 s3 hfin hkz htne
                go_wp2_with fail
                refine HCA.out.mono ?_
                rintro e w4 ⟨rfl, q4⟩
                dsimp only
                have HB4 := Lib.hid (HBr.out.trans (q4.mono HBr.out.size))
                clear q4
                go_wp2_with fail
                exact ⟨⟨k + 1, A4, rfl, by simp, by omega, HFIN.out, HB4.out⟩, by simp [intOf]; omega⟩
            · obtain rfl : k = ts.length := by omega
              have f1 : (9223372036854775807 < O.size + 1) = False := by simp; omega
              have hfin : (O ++ (⟨#[93]⟩ : ByteArray)).data.toList = printTT (.mk m ts) := by
                rw [app_data, HO.out, List.take_length, HPT.out]; rfl
              have HFIN := Lib.hid hfin
              clear hfin
              go_wp2_with fail
              go_ret
              exact text_post HFIN.out HXr.out
        · have q6 : (m.k != 6) = true := by rw [bne_iff_ne]; exact h6
          have q7 : (m.k != 7) = true := by rw [bne_iff_ne]; exact h7
          have hk4 : 0 ≤ m.k ∧ m.k ≤ 4 := by
            have h1 := HOK.out.1
            have h2 := HOK.out.2.2.1
            unfold NumOk at h1
            omega
          have hpt : printTT (.mk m ts) = wordTx m.k := by rw [printTT, if_neg h5, if_neg h6, if_neg h7]
          have HPT := Lib.hid hpt
          have HWD := Lib.hid (fun w => word03 m hk4 w)
          clear hpt hk4 h5 h6 h7
          go_wp2_with fail
          refine (HWD.out _).mono ?_
          rintro e w2 ⟨rfl, q2⟩
          dsimp only
          have HX2 := Lib.hid (HX1.out.trans (q2.mono HX1.out.size))
          clear q2
          go_wp2_with fail
          go_ret
          exact ⟨by rw [HPT.out]; rfl, HX2.out⟩

set_option maxHeartbeats 1000000 in
set_option maxRecDepth 100000 in
theorem Print03 (b off cap : Nat) (t : TT) (hok : okTT t) (hl : (flatTT t).length ≤ 1000) (hN : NamesOk (flatTT t)) (w : World) (hR : RdT w b off (flatTT t)) :
    Calls Tryd.prog 39 #[.slice (some ⟨b, off, none⟩) (flatTT t).length cap] w (TextPost (printTT t) w) := by
  have hp := printed03 b off cap (flatTT t) hl hN w hR (flatTT t).length 0 t [] hok (Nat.le_refl _) (by rw [List.drop_zero, List.append_nil]) w (Below.refl _ _)
  have HP := Lib.hid hp
  obtain ⟨y, hy⟩ : ∃ y : ByteArray, (⟨(printTT t).toArray⟩ : ByteArray) = y := ⟨_, rfl⟩
  have HY := Lib.hid hy
  clear hp hR hN hy
  go_enter Tryd.func39, Tryd.ntmps39
  go_wp2_with fail
  refine HP.out.mono ?_
  rintro e w1 ⟨rfl, q⟩
  dsimp only
  rw [HY.out]
  have HQ := Lib.hid q
  clear q
  go_wp2_with fail
  go_ret
  exact text_post (by rw [← HY.out]) HQ.out

/-- What a yes of the reference's Plain tells. -/
def PlainTy (L : List TN) (most : Nat) : Prop := ∃ t, flatTT t = L ∧ okTT t ∧ L.length ≤ most ∧ ∀ n ∈ L, n.nm.size ≤ 100
def PlainTyPost (L : List TN) (most : Nat) (w : World) (e : Ending) (w' : World) : Prop := ∃ bo : Bool, e = .returned (.bool bo) ∧ (bo = true → PlainTy L most) ∧ Below w.heap.size w w'
theorem plainTy_false {L : List TN} {most : Nat} {w w' : World} (h : Below w.heap.size w w') : PlainTyPost L most w (.returned (.bool false)) w' := ⟨false, rfl, fun h => by simp at h, h⟩

set_option maxHeartbeats 1000000 in
set_option maxRecDepth 100000 in
theorem Plain07_none (A : Option Addr) (cap most : Nat) (w : World) : Calls Tryd.prog 20 #[.slice A 0 cap, .int .i64 most] w fun e w' => e = .returned (.bool false) ∧ Below w.heap.size w w' := by
  have qm : decide ((most : Int) < 0) = false := by simp
  go_enter Tryd.func20, Tryd.ntmps20
  go_wp2_with fail
  refine wp_loop_rounds 1 ?_
  rw [rounds_succ]
  go_wp2_with fail
  refine (Right03_none A cap _).mono ?_
  rintro e w1 ⟨rfl, q⟩
  dsimp only
  have HQ := Lib.hid q
  clear q
  go_wp2_with fail
  go_ret
  exact ⟨rfl, HQ.out⟩

set_option maxHeartbeats 2000000 in
set_option maxRecDepth 100000 in
theorem Plain07 (b off cap most : Nat) (hm : most ≤ 1000) (L : List TN) (hne : 0 < L.length) (hlm : L.length ≤ maxLen) (w : World) (hRV : RdT w b off L) (hS : ∀ n ∈ L, n.nm.size ≤ 9223372036854775807) :
    Calls Tryd.prog 20 #[.slice (some ⟨b, off, none⟩) L.length cap, .int .i64 most] w (PlainTyPost L most w) := by
  have HRV := Lib.hid hRV
  have HS := Lib.hid hS
  unfold maxLen at hlm
  clear hRV hS
  by_cases hbig : most < L.length
  · have qb : decide (most < L.length) = true := by simp; omega
    go_enter Tryd.func20, Tryd.ntmps20
    go_wp2_with fail
    go_ret
    exact plainTy_false (Below.refl _ _)
  · have qb : decide (most < L.length) = false := by simp; omega
    have hle : L.length ≤ most := by omega
    go_enter Tryd.func20, Tryd.ntmps20
    go_wp2_with fail
    go_loop [5] (fun i => ∃ k : Nat, i = .int .i64 k ∧ k ≤ L.length ∧ ∀ j n, j < k → L[j]? = some n → n.nm.size ≤ 100) (fun i => L.length - (intOf i).toNat)
    case atStart => exact ⟨0, rfl, Nat.zero_le _, fun j n h => by omega⟩
    case round =>
      obtain ⟨k, rfl, hk, hall⟩ := hrel
      have HALL := Lib.hid hall
      clear hall
      by_cases hlt : k < L.length
      · obtain ⟨n, hn, a0, a1, a2⟩ := HRV.out.at_ hlt
        have hk0 : (0 : Int) ≤ k := by omega
        have hlt' : (k : Int) < L.length := by omega
        have HN := Lib.hid hn
        clear hn a0 a2
        by_cases h1 : 100 < n.nm.size
        · have q1 : decide (100 < (n.nm.size : Int)) = true := by simp; omega
          clear h1
          go_wp2_with fail
          go_ret
          exact plainTy_false (Below.refl _ _)
        · have q1 : decide (100 < (n.nm.size : Int)) = false := by simp; omega
          have H1 := Lib.hid h1
          clear h1
          go_wp2_with fail
          go_round
          case rel =>
            refine ⟨k + 1, by go_num, by omega, fun j x hj hx => ?_⟩
            by_cases e : j = k
            · subst e
              rw [HN.out] at hx
              obtain rfl := Option.some.inj hx
              have := H1.out
              omega
            · exact HALL.out j x (by omega) hx
          case measure => simp [intOf]; omega
      · obtain rfl : k = L.length := by omega
        have hrt := Right03 b off cap L hne w HRV.out (by omega) HS.out
        have HRT := Lib.hid hrt
        clear hrt
        go_wp2_with fail
        refine HRT.out.mono ?_
        rintro e w1 ⟨bo, rfl, hb, q⟩
        dsimp only
        have HB := Lib.hid hb
        have HQ := Lib.hid q
        have hpl := Plain03 b off cap L w1 (HRV.out.since HRV.out.1 q) (by omega)
        have HPL := Lib.hid hpl
        clear hb q hpl
        cases bo with
        | false =>
          go_wp2_with fail
          go_ret
          exact plainTy_false HQ.out
        | true =>
          go_wp2_with fail
          refine HPL.out.mono ?_
          rintro e w2 ⟨bo, rfl, hp, rfl⟩
          dsimp only
          have HP := Lib.hid hp
          clear hp
          go_wp2_with fail
          go_ret
          refine ⟨bo, rfl, fun h => ?_, HQ.out⟩
          obtain ⟨t, h1, h2⟩ := tree_type L (by omega) hne (HB.out (by simp)) (HP.out h)
          exact ⟨t, h2, h1, hle, fun n hn => by
            obtain ⟨j, hj, rfl⟩ := List.getElem_of_mem hn
            exact HALL.out j _ hj (List.getElem?_eq_getElem hj)⟩
end Shw
end Go.Proofs.YthamcklkmchkiaaDoor
