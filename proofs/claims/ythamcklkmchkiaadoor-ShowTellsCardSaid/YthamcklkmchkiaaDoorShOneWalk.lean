/-
  DERIVED. LAYER 19 (value), the reference's, walked: a value without what its functions are; are two the same.
-/
import Derived.Test.YthamcklkmchkiaaDoorShOnePlain
import Derived.Test.YthamcklkmchkiaaDoorShOpen
namespace Go.Proofs.YthamcklkmchkiaaDoor
open Go.RowKit
namespace Sh
mutual
theorem plain_le : ∀ t : VT, (flatT (plainT t)).length ≤ (flatT t).length
  | .mk n ts => by
    rw [plainT]
    split
    · rw [flatT, flatTs, flatT, List.length_cons, List.length_cons]; simp
    · have := plain_les ts
      rw [flatT, flatT, List.length_cons, List.length_cons]; omega
theorem plain_les : ∀ ts : List VT, (flatTs (plainTs ts)).length ≤ (flatTs ts).length
  | [] => by rw [plainTs, flatTs]; exact Nat.le_refl _
  | t :: ts => by
    have h1 := plain_le t
    have h2 := plain_les ts
    rw [plainTs, flatTs, flatTs, List.length_append, List.length_append]; omega
end
theorem flatTs_app : ∀ a b : List VT, flatTs (a ++ b) = flatTs a ++ flatTs b
  | [], b => by rw [flatTs]; rfl
  | t :: a, b => by rw [List.cons_append, flatTs, flatTs, flatTs_app a b, List.append_assoc]
theorem plainTs_app : ∀ a b : List VT, plainTs (a ++ b) = plainTs a ++ plainTs b
  | [], b => by rw [plainTs]; rfl
  | t :: a, b => by rw [List.cons_append, plainTs, plainTs, plainTs_app a b, List.cons_append]
theorem flat_mem : ∀ (ts : List VT) (t : VT), t ∈ ts → (flatT t).length ≤ (flatTs ts).length
  | [], t, h => by simp at h
  | u :: ts, t, h => by
    rw [flatTs, List.length_append]
    rcases List.mem_cons.1 h with rfl | h
    · omega
    · have := flat_mem ts t h; omega
end Sh
namespace Shw
open Gl Glw Sh

def PlainPost19 (t : VT) (w : World) (e : Ending) (w' : World) : Prop := ∃ g c, e = .returned (.slice (some ⟨g, 0, none⟩) (flatT (plainT t)).length c) ∧ (flatT (plainT t)).length ≤ c ∧ w.heap.size ≤ g ∧ RdV w' g 0 (flatT (plainT t)) ∧ Below w.heap.size w w'

set_option maxHeartbeats 8000000 in
set_option maxRecDepth 100000 in
theorem Plain19 : ∀ (N : Nat) (t : VT), okT t → (flatT t).length ≤ N → N ≤ 1000 → ∀ (b off cap : Nat) (w : World), (flatT t).length ≤ cap → RdV w b off (flatT t) →
    Calls Tryd.prog 16 #[.slice (some ⟨b, off, none⟩) (flatT t).length cap] w (PlainPost19 t w) := by
  intro N
  induction N with
  | zero =>
    intro t _ h
    have : (flatT t).length = (flatTs (subT t)).length + 1 := by rw [flatT_eq]; rfl
    omega
  | succ N ih =>
    intro t hok hN hNN b off cap w hcap hR
    have IH := Lib.hid ih
    clear ih
    obtain ⟨L, hL⟩ : ∃ L, flatT t = L := ⟨_, rfl⟩
    rw [hL] at hN hcap hR ⊢
    have hne : 0 < L.length := by rw [← hL, flatT_eq]; simp
    obtain ⟨n, hn, a0, a1, a2, a3, a4, a5, a6⟩ := hR.at_ hne
    simp only [Nat.zero_mul, Nat.add_zero] at a0 a1 a2 a3 a4 a5 a6
    have hroot : rootT t = n := by
      rw [← hL, flatT_eq] at hn
      simpa using hn
    have hp0 : (0 : Int) < L.length := by omega
    have HR := Lib.hid hR
    have HL := Lib.hid hL
    have HOK := Lib.hid hok
    have HROOT := Lib.hid hroot
    clear hR hL hok hroot hn
    by_cases h67 : n.k = 6 ∨ n.k = 7
    · have hpl : flatT (plainT t) = [funN n] := by
        have hr := HROOT.out
        cases t with
        | mk m ts =>
          have hm : m = n := hr
          subst hm
          rw [plainT, if_pos h67, flatT, flatTs]
      have HPL := Lib.hid hpl
      have h67' : n.k = 6 ∨ ¬ n.k = 6 ∧ n.k = 7 := by omega
      clear h67 hpl
      have fin : ∀ e w', e = .returned (.slice (some ⟨w.heap.size, 0, none⟩) 1 1) → w' = w.alloc (.cells #[.int .i64 6, .string n.lab, .string ⟨#[]⟩, .int .i64 0, .int .i64 0, .slice none 0 0, .slice none 0 0] 38) → PlainPost19 t w e w' := by
        rintro e w' rfl rfl
        refine ⟨w.heap.size, 1, by rw [HPL.out]; rfl, by rw [HPL.out]; exact Nat.le_refl _, Nat.le_refl _, ?_, (Below.refl _ _).alloc (Nat.le_refl _) _⟩
        rw [HPL.out]
        exact RdV_new w [funN n] _
      have FIN := Lib.hid fin
      clear fin
      rcases h67' with h6 | ⟨h6, h7⟩
      · have q6 : (n.k == 6) = true := by rw [beq_iff_eq]; exact h6
        clear h6
        go_enter Tryd.func16, Tryd.ntmps16
        go_wp2_with fail
        go_ret
        exact FIN.out _ _ rfl rfl
      · have q6 : (n.k == 6) = false := by rw [beq_eq_false_iff_ne]; exact h6
        have q7 : (n.k == 7) = true := by rw [beq_iff_eq]; exact h7
        clear h6 h7
        go_enter Tryd.func16, Tryd.ntmps16
        go_wp2_with fail
        go_ret
        exact FIN.out _ _ rfl rfl
    · have q6 : (n.k == 6) = false := by rw [beq_eq_false_iff_ne]; omega
      have q7 : (n.k == 7) = false := by rw [beq_eq_false_iff_ne]; omega
      obtain ⟨ts, hts⟩ : ∃ ts, subT t = ts := ⟨_, rfl⟩
      have hpl : plainT t = .mk n (plainTs ts) := by
        have hr := HROOT.out
        cases t with
        | mk m us =>
          have hm : m = n := hr
          have hu : us = ts := hts
          subst hm hu
          rw [plainT, if_neg h67]
      have hkv : kidsV L = ts.map flatT := by
        rw [← HL.out, kidsV_T t HOK.out (by rw [HL.out]; omega), hts]
      have hlen : L.length = (flatTs ts).length + 1 := by rw [← HL.out, flatT_eq, hts]; rfl
      have hoks : okTs ts := by
        have h := HOK.out
        cases t with
        | mk m us =>
          have hu : us = ts := hts
          subst hu
          rw [okT] at h
          exact h.2.2.2
      have hb1 : Below w.heap.size w (w.alloc (.cells #[.int .i64 n.k, .string n.lab, .string n.nm, .int .i64 n.num, .int .i64 n.many, .slice n.tA n.tn n.tc, .slice n.uA n.un n.uc] 38)) := (Below.refl _ _).alloc (Nat.le_refl _) _
      have hsz : (w.alloc (.cells #[.int .i64 n.k, .string n.lab, .string n.nm, .int .i64 n.num, .int .i64 n.many, .slice n.tA n.tn n.tc, .slice n.uA n.un n.uc] 38)).heap.size = w.heap.size + 1 := by simp
      have hki := Kids19 b off cap L hne hcap _ (HR.out.since HR.out.1 hb1) (by omega)
      rw [hsz, hkv] at hki
      have own1 : (w.alloc (.cells #[.int .i64 n.k, .string n.lab, .string n.nm, .int .i64 n.num, .int .i64 n.many, .slice n.tA n.tn n.tc, .slice n.uA n.un n.uc] 38)).ownsRow w.heap.size 38 7 (.slice (some ⟨w.heap.size, 0, none⟩) 1 1) 1 (vnsC [n]) := World.ownsRow_lit w #[.int .i64 n.k, .string n.lab, .string n.nm, .int .i64 n.num, .int .i64 n.many, .slice n.tA n.tn n.tc, .slice n.uA n.un n.uc] 1 (Nat.le_refl _) (by decide) rfl
      obtain ⟨i0, hi, hz0, hz1, hz2⟩ := info_parts infoVN
      have HI := Lib.hid hi
      have HZ0 := Lib.hid hz0
      have HZ1 := Lib.hid hz1
      have HZ2 := Lib.hid hz2
      have HKI := Lib.hid hki
      have HB1 := Lib.hid hb1
      have HSZ := Lib.hid hsz
      have OWN1 := Lib.hid own1
      have HPL := Lib.hid hpl
      have HLEN := Lib.hid hlen
      have HOKS := Lib.hid hoks
      clear hi hz0 hz1 hz2 hki hb1 hsz own1 hpl hlen hoks hkv hts h67
      go_enter Tryd.func16, Tryd.ntmps16
      go_wp2_with fail
      refine HKI.out.mono ?_
      rintro e w2 ⟨v, rfl, hrows, q2⟩
      dsimp only
      have hml : ((ts.map flatT).map vnsC).length = ts.length := by rw [List.length_map, List.length_map]
      have hform : ∃ A c, v = .slice A ts.length c := by
        obtain ⟨_, h, _⟩ := hrows
        rw [hml] at h
        exact own_form h
      obtain ⟨A, c, hv⟩ := hform
      rw [hv] at hrows ⊢
      have q2' : Below (w.heap.size + 1) (w.alloc (.cells #[.int .i64 n.k, .string n.lab, .string n.nm, .int .i64 n.num, .int .i64 n.many, .slice n.tA n.tn n.tc, .slice n.uA n.un n.uc] 38)) w2 := q2
      have own2 := own_keep (w' := w2) OWN1.out (fun k hk => q2'.block k (by have := (own_lt OWN1.out hk).2; rw [HSZ.out] at this; omega))
      have hs2 : w.heap.size + 1 ≤ w2.heap.size := by have := q2'.size; rw [HSZ.out] at this; exact this
      have HB2 := Lib.hid (HB1.out.trans (q2'.mono (by omega)))
      have HRW := Lib.hid hrows
      have HML := Lib.hid hml
      have OWN2 := Lib.hid own2
      have htl : ts.length ≤ 1000 := by
        have h1 : ts.length ≤ (flatTs ts).length := by
          clear HML hml hv hrows HRW own2 q2' q2 OWN2 HKI HLEN HPL HOKS
          induction ts with
          | nil => exact Nat.zero_le _
          | cons u us ihh =>
            rw [flatTs, flatT_eq, List.length_append, List.length_cons, List.length_cons]
            omega
        have := HLEN.out
        omega
      clear q2 q2' own2 hrows hv hml
      go_wp2_with fail
      go_loopw [3, 5] (fun o i wr => ∃ k : Nat, i = .int .i64 k ∧ k ≤ ts.length ∧ wr.ownsRow w.heap.size 38 7 o (n :: flatTs (plainTs (ts.take k))).length (vnsC (n :: flatTs (plainTs (ts.take k)))) ∧
        (∀ x, o.ownBlock = some x → x < w.heap.size + 1 ∨ w2.heap.size ≤ x) ∧ (∀ k, w.heap.size + 1 ≤ k → k < w2.heap.size → wr.heap[k]? = w2.heap[k]?) ∧ w2.heap.size ≤ wr.heap.size ∧ Below w.heap.size w wr) (fun _ i _ => ts.length - (intOf i).toNat)
      case atStart =>
        refine ⟨0, rfl, Nat.zero_le _, ?_, fun x hx => ?_, fun _ _ _ => rfl, Nat.le_refl _, HB2.out⟩
        · rw [List.take_zero, plainTs, flatTs]
          exact OWN2.out
        · have : w.heap.size = x := by simpa [Value.ownBlock] using hx
          omega
      case round =>
        obtain ⟨k, rfl, hk, hown, hsep, hkeep, hsz, hB⟩ := hrel
        have HOW := Lib.hid hown
        have HSEP := Lib.hid hsep
        have HKEEP := Lib.hid hkeep
        have HB := Lib.hid hB
        clear hown hsep hkeep hB
        by_cases hlt : k < ts.length
        · obtain ⟨u, hu⟩ : ∃ u, ts[k]? = some u := ⟨_, List.getElem?_eq_getElem hlt⟩
          obtain ⟨bA, cA, g, m, c', e1, _, hbA, hbA2, x1, hm1, hmc, hgb, hg, hc1⟩ := HRW.out.row (i := k) (l := vnsC (flatT u)) (by rw [List.getElem?_map, List.getElem?_map, hu]; rfl)
          rw [HML.out] at e1
          simp only [Value.slice.injEq, true_and] at e1
          obtain ⟨rfl, rfl⟩ := e1
          have hml : m = (flatT u).length := by rw [vnsC_len] at hm1; omega
          subst hml
          have x2 : wr.cell? ⟨bA, k, none⟩ = some (.slice (some ⟨g, 0, none⟩) (flatT u).length c') := (World.cell?_of_block (a := ⟨bA, k, none⟩) (HKEEP.out bA hbA hbA2)).trans x1
          have hrd : RdV wr g 0 (flatT u) := RdV.of_cells (Nat.lt_of_lt_of_le hg hsz) (hc1.of_block (HKEEP.out g hgb hg))
          have hum : u ∈ ts := List.mem_of_getElem? hu
          have hcall := IH.out u (okTs_mem HOKS.out u hum) (by have := flat_mem ts u hum; have := HLEN.out; omega) (by omega) g 0 c' wr hmc hrd
          have htk : ts.take (k + 1) = ts.take k ++ [u] := by rw [List.take_add_one, hu]; rfl
          have hul : (flatT u).length ≤ 1000 := by have := flat_mem ts u hum; have := HLEN.out; omega
          have HCALL := Lib.hid hcall
          have HTK := Lib.hid htk
          have hk0 : (0 : Int) ≤ k := by omega
          have hlt' : (k : Int) < ts.length := by omega
          clear hu x1 hrd hum hcall htk hc1 hm1
          go_wp2_with fail
          refine HCALL.out.mono ?_
          rintro e w4 ⟨g2, c2, rfl, hc2, hg2, hrd2, q4⟩
          dsimp only
          have hU0 : 0 < (flatT (plainT u)).length := by rw [flatT_eq]; simp
          have hUl : (flatT (plainT u)).length ≤ 1000 := Nat.le_trans (plain_le u) hul
          have hMe : n :: flatTs (plainTs (ts.take (k + 1))) = (n :: flatTs (plainTs (ts.take k))) ++ flatT (plainT u) := by
            rw [HTK.out, plainTs_app, flatTs_app, plainTs, plainTs, flatTs, flatTs, List.append_nil]; rfl
          have hMl : (n :: flatTs (plainTs (ts.take k))).length ≤ 2000 := by
            have h1 := plain_les (ts.take k)
            have h2 : (flatTs (ts.take k)).length ≤ (flatTs ts).length := by
              conv => rhs; rw [← List.take_append_drop k ts, flatTs_app]
              rw [List.length_append]; omega
            have := HLEN.out
            rw [List.length_cons]; omega
          obtain ⟨M, hM⟩ : ∃ M, n :: flatTs (plainTs (ts.take k)) = M := ⟨_, rfl⟩
          obtain ⟨U, hU⟩ : ∃ U, flatT (plainT u) = U := ⟨_, rfl⟩
          have how := HOW.out
          rw [hM] at how hMe hMl
          rw [hU] at hc2 hrd2 hU0 hUl hMe ⊢
          have own4 := own_keep (w' := w4) how (fun k hk => q4.block k (own_lt how hk).2)
          have hsz4 : wr.heap.size ≤ w4.heap.size := q4.size
          have hbw : w.heap.size ≤ wr.heap.size := HB.out.size
          have HOW2 := Lib.hid how
          have OWN4 := Lib.hid own4
          have NEWS := Lib.hid hrd2.cells.add
          have HLN := Lib.hid (vnsC_len U)
          have HON := Lib.hid (vnsC_one U)
          have HME := Lib.hid hMe
          have HB4 := Lib.hid (HB.out.trans (q4.mono hbw))
          have HK4 := Lib.hid (show ∀ k, w.heap.size + 1 ≤ k → k < w2.heap.size → w4.heap[k]? = w2.heap[k]? from fun k h1 h2 => (q4.block k (Nat.lt_of_lt_of_le h2 hsz)).trans (HKEEP.out k h1 h2))
          clear how own4 hMe q4 hrd2 hM hU HOW HKEEP
          go_wp2_with (at_builtin; refine wpList_append_lies _ rfl (.tmp 36) (.tmp 41) 29 rfl w.heap.size 38 i0 _ 7 104 Tryd.underlying29 HI.out HZ0.out HZ1.out HZ2.out rfl (by decide) u3 _ _ rfl OWN4.out ⟨g2, 0, none⟩ U.length c2 (vnsC U) rfl HLN.out NEWS.out HON.out hU0 (by unfold maxLen; omega) (by omega) (by omega) _ rfl ?_; intro g5 c5 w5 hown5 hgr5 hat5 hlt5; have HO5 := Lib.hid hown5; have HG5 := Lib.hid hgr5; have HA5 := Lib.hid hat5; clear hown5 hgr5 hat5)
          have hsz5 := HG5.out.size
          refine ⟨⟨k + 1, by simp, by omega, ?_, fun x hx => ?_, fun x h1 h2 => ?_, by omega, HB4.out.grown HG5.out (by omega) (fun k hk => (own_lt OWN4.out hk).1)⟩, by simp [intOf]; omega⟩
          · rw [HME.out, List.length_append, vnsC_app]
            exact HO5.out
          · have : g5 = x := by simpa [Value.ownBlock] using hx
            subst this
            rcases HA5.out with h | h
            · exact HSEP.out g5 h
            · right; omega
          · refine (HG5.out.block x (by omega) (fun e => ?_)).trans (HK4.out x h1 h2)
            rcases HSEP.out x e.symm with h | h <;> omega
        · obtain rfl : k = ts.length := by omega
          go_wp2_with fail
          go_ret
          have how := HOW.out
          rw [List.take_length] at how
          have hfp : flatT (plainT t) = n :: flatTs (plainTs ts) := by rw [HPL.out, flatT]
          obtain ⟨gg, cc, hv, hgb, hgl⟩ := World.ownsRow.form how (by rw [List.length_cons]; omega)
          have hcap' : (n :: flatTs (plainTs ts)).length ≤ cc := by
            rw [hv] at how
            exact own_cap how
          subst hv
          refine ⟨gg, cc, by rw [hfp]; rfl, by rw [hfp]; exact hcap', hgb, ?_, HB.out⟩
          rw [hfp]
          refine RdV.of_cells hgl fun j x hj => ?_
          have hjl : j < (vnsC (n :: flatTs (plainTs ts))).length := by
            rcases Nat.lt_or_ge j (vnsC (n :: flatTs (plainTs ts))).length with h | h
            · exact h
            · rw [List.getElem?_eq_none h] at hj; cases hj
          rw [vnsC_len] at hjl
          rw [Nat.zero_add, how.cellAt j hjl]
          exact hj
end Shw
end Go.Proofs.YthamcklkmchkiaaDoor
