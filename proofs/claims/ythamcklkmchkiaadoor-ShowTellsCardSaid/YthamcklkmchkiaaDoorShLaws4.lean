/-
  DERIVED. THE STATEMENT ShowRows, WALKED.
-/
import Derived.Test.YthamcklkmchkiaaDoorShRight
import Derived.Test.YthamcklkmchkiaaDoorShText
namespace Go.Proofs.YthamcklkmchkiaaDoor
open Go.RowKit
namespace Shw
open Gl Glw Sh

/-- A type that came in: none, or a row of nodes. -/
def TyIn0 (w : World) (A : Option Addr) (m c : Nat) : Prop := m = 0 ∨ ∃ b off, ∃ L : List TN, A = some ⟨b, off, none⟩ ∧ L.length = m ∧ m ≤ c ∧ RdT w b off L ∧ ∀ n ∈ L, n.nm.size ≤ 9223372036854775807
/-- A value that came in, not empty. -/
structure VIn (w : World) (b off cap : Nat) (L : List VN) : Prop where
  ne : 0 < L.length
  le : L.length ≤ cap
  most : L.length ≤ maxLen
  rd : RdV w b off L
  ty : ∀ n ∈ L, TyIn0 w n.tA n.tn n.tc ∧ TyIn0 w n.uA n.un n.uc
  fit : ∀ n ∈ L, Fit n
  num : ∀ n ∈ L, -9223372036854775808 ≤ n.num ∧ n.num ≤ 9223372036854775807
theorem VIn.tys {w : World} {b off cap m : Nat} {L : List VN} (h : VIn w b off cap L) (hf : FewP m L) : TysIn w L := by
  intro n hn
  have h1 := h.ty n hn
  have h2 := hf.2 n hn
  refine ⟨?_, ?_⟩
  · rcases h1.1 with h0 | ⟨b, off, M, e1, e2, e3, e4, e5⟩
    · exact .inl h0
    · exact .inr ⟨b, off, M, e1, e2, e3, by have := h2.2.2.1; omega, e4, e5⟩
  · rcases h1.2 with h0 | ⟨b, off, M, e1, e2, e3, e4, e5⟩
    · exact .inl h0
    · exact .inr ⟨b, off, M, e1, e2, e3, by have := h2.2.2.2; omega, e4, e5⟩
theorem VIn.ok {w : World} {b off cap m : Nat} {L : List VN} (h : VIn w b off cap L) (hf : FewP m L) : ∀ n ∈ L, VOk n := fun n hn => by
  have h1 := h.num n hn
  have h2 := hf.2 n hn
  exact ⟨h1.1, h1.2, by have := h2.1; omega, by have := h2.2.1; omega⟩

def tagN : VN := ⟨5, ⟨#[]⟩, ⟨#[83, 111, 109, 101]⟩, 0, 0, none, 0, 0, none, 0, 0⟩
def rowN : VN := ⟨4, ⟨#[]⟩, ⟨#[]⟩, 0, 1, none, 0, 0, none, 0, 0⟩
theorem show_tag {f : Nat} {L : List VN} {t : List UInt8} {m : Nat} (h : showF f L = some (t, m)) : showF (f + 1) (tagN :: L) = some ([91, 83, 111, 109, 101, 58, 32] ++ t ++ [93], 1 + m) := by
  rw [showF, if_neg (by decide), if_neg (by decide), if_neg (by decide), if_neg (by decide), if_pos (show tagN.k = 5 from rfl), h]
  simp [tagN]
theorem show_row {f : Nat} {n : VN} {r : List VN} {t : List UInt8} {m : Nat} (h : showF f (n :: r) = some (t, m)) : showF (f + 1) (rowN :: { n with lab := ⟨#[111, 110, 101]⟩ } :: r) = some ([123, 111, 110, 101, 58, 32] ++ t ++ [125], 1 + m) := by
  have h' := (showF_lab f n r ⟨#[111, 110, 101]⟩).trans h
  rw [showF, if_neg (by decide), if_neg (by decide), if_neg (by decide), if_neg (by decide), if_neg (by decide), if_pos (show rowN.k = 4 from rfl), show rowN.many.toNat = 0 + 1 from rfl, rowsG, h']
  simp [rowsG, Lib.join_one]

set_option maxHeartbeats 8000000 in
set_option maxRecDepth 100000 in
theorem law_rows (b off cap : Nat) (L : List VN) (w : World) (hV : VIn w b off cap L) (hE : Env w) :
    Calls Tryd.prog 6 #[.slice (some ⟨b, off, none⟩) L.length cap] w fun en w' => en = .returned (.bool true) ∧ Below w.heap.size w w' := by
  have hfew := Few19 b off cap 59 L (by omega) w hV.rd hV.most
  have HFEW := Lib.hid hfew
  have HV := Lib.hid hV
  have HE := Lib.hid hE
  clear hfew hV hE
  go_enter Tryd.func6, Tryd.ntmps6
  go_wp2_with fail
  refine HFEW.out.mono ?_
  rintro en w0 ⟨bo, rfl, hb, rfl⟩
  dsimp only
  have HBO := Lib.hid hb
  clear hb HFEW
  cases bo with
  | false =>
    go_wp2_with fail
    refine (alive _ HE.out).mono ?_
    rintro en w1 ⟨rfl, b1⟩
    dsimp only
    have HB1 := Lib.hid b1
    clear b1
    go_wp2_with fail
    go_ret
    exact ⟨rfl, HB1.out⟩
  | true =>
    have hf : FewP 59 L := HBO.out.1 (by simp)
    have hlen : L.length ≤ 59 := hf.1
    have hrt := Right19 b off cap L HV.out.ne HV.out.le (by omega) w HV.out.rd (HV.out.tys hf) HV.out.fit
    have HRT := Lib.hid hrt
    have HFP := Lib.hid hf
    clear hrt hf HBO
    go_wp2_with fail
    refine HRT.out.mono ?_
    rintro en w1 ⟨bo, rfl, hr, b1⟩
    dsimp only
    have HRI := Lib.hid hr
    have HB1 := Lib.hid b1
    have HE1 := Lib.hid (HE.out.below b1)
    clear hr b1 HRT
    cases bo with
    | false =>
      go_wp2_with fail
      refine (alive _ HE1.out).mono ?_
      rintro en w2 ⟨rfl, b2⟩
      dsimp only
      have HB2 := Lib.hid (HB1.out.trans (b2.mono HB1.out.size))
      clear b2
      go_wp2_with fail
      go_ret
      exact ⟨rfl, HB2.out⟩
    | true =>
      obtain ⟨T, hT, hok⟩ := tree_of (HRI.out (by simp)).1 (by omega)
      have hsh : showF L.length L = some (showT T, L.length) := by
        have := showF_L hok (f := L.length) (by rw [hT]; exact Nat.le_refl _)
        rw [hT] at this
        exact this
      have hlb := show_len L.length L _ _ (HV.out.ok HFP.out) hsh
      have hge := ge_T T hok
      have hnz := show_ne T
      obtain ⟨t, ht⟩ : ∃ t, showT T = t := ⟨_, rfl⟩
      rw [ht] at hsh hlb hge hnz
      obtain ⟨y, hy⟩ : ∃ y : ByteArray, (⟨t.toArray⟩ : ByteArray) = y := ⟨_, rfl⟩
      have hyl : y.data.toList = t := by rw [← hy]
      have hys : y.size = t.length := by rw [← hyl, size_data]
      have hyb : (y.size : Int) ≤ 1000000 := by omega
      have hy0 : (0 : Int) < y.size := by
        have : t.length ≠ 0 := fun h => hnz (List.eq_nil_of_length_eq_zero h)
        omega
      have hval := Value b off cap L L.length t L.length hsh w1 (HV.out.rd.since HV.out.rd.1 HB1.out) HE1.out (HV.out.ok HFP.out) (by omega)
      rw [hy] at hval
      have HVAL := Lib.hid hval
      have HSH := Lib.hid hsh
      have HGE := Lib.hid hge
      have HYL := Lib.hid hyl
      have HY := Lib.hid hy
      clear hsh hlb hge hnz hyl hys hval hT hok ht hy
      go_wp2_with fail
      refine HVAL.out.mono ?_
      rintro en w2 ⟨rfl, b2⟩
      dsimp only
      have HB2 := Lib.hid (HB1.out.trans (b2.mono HB1.out.size))
      have HE2 := Lib.hid (HE1.out.below b2)
      clear b2 HVAL
      go_wp2_with fail
      go_loop [4] (fun i => ∃ k : Nat, i = .int .i64 k ∧ k ≤ y.size) (fun i => y.size - (intOf i).toNat)
      case atStart => exact ⟨0, rfl, Nat.zero_le _⟩
      case round =>
        obtain ⟨k, rfl, hk⟩ := hrel
        by_cases hlt : k < y.size
        · have hk0 : (0 : Int) ≤ k := by omega
          have hlt' : (k : Int) < y.size := by omega
          have q10 : (((y[k]'hlt).toNat : Int) == 10) = false := by
            rw [beq_eq_false_iff_ne]
            have hm : y[k]'hlt ∈ t := by
              rw [← HYL.out]
              exact List.getElem_mem (l := y.data.toList) (by rw [size_data]; exact hlt)
            have := HGE.out _ hm
            omega
          go_wp2_with fail
          go_round
          case rel => exact ⟨k + 1, by go_num, by omega⟩
          case measure => simp [intOf]; omega
        · obtain rfl : k = y.size := by omega
          obtain ⟨i0, hi, hz0, hz1, hz2⟩ := info_parts infoVN
          have HI := Lib.hid hi
          have HZ0 := Lib.hid hz0
          have HZ1 := Lib.hid hz1
          have HZ2 := Lib.hid hz2
          have hrd2 := HV.out.rd.since HV.out.rd.1 HB2.out
          have own1 : (w2.alloc (.cells #[.int .i64 5, .string ⟨#[]⟩, .string ⟨#[83, 111, 109, 101]⟩, .int .i64 0, .int .i64 0, .slice none 0 0, .slice none 0 0] 38)).ownsRow w2.heap.size 38 7 (.slice (some ⟨w2.heap.size, 0, none⟩) 1 1) 1 (vnC tagN) := World.ownsRow_lit w2 #[.int .i64 5, .string ⟨#[]⟩, .string ⟨#[83, 111, 109, 101]⟩, .int .i64 0, .int .i64 0, .slice none 0 0, .slice none 0 0] 1 (Nat.le_refl _) (by decide) rfl
          have news1 : Cells (w2.alloc (.cells #[.int .i64 5, .string ⟨#[]⟩, .string ⟨#[83, 111, 109, 101]⟩, .int .i64 0, .int .i64 0, .slice none 0 0, .slice none 0 0] 38)) b off (vnsC L) := hrd2.cells.of_block (Below.heap_alloc _ _ _ hrd2.1)
          have hs1 : (w2.alloc (.cells #[.int .i64 5, .string ⟨#[]⟩, .string ⟨#[83, 111, 109, 101]⟩, .int .i64 0, .int .i64 0, .slice none 0 0, .slice none 0 0] 38)).heap.size = w2.heap.size + 1 := by simp
          have ba1 : Below w2.heap.size w2 (w2.alloc (.cells #[.int .i64 5, .string ⟨#[]⟩, .string ⟨#[83, 111, 109, 101]⟩, .int .i64 0, .int .i64 0, .slice none 0 0, .slice none 0 0] 38)) := (Below.refl _ _).alloc (Nat.le_refl _) _
          have OWN1 := Lib.hid own1
          have NEWS1 := Lib.hid news1.add
          have HS1 := Lib.hid hs1
          have BA1 := Lib.hid ba1
          have HLN := Lib.hid (vnsC_len L)
          have HON := Lib.hid (vnsC_one L)
          have hne := HV.out.ne
          have hw2 : w.heap.size ≤ w2.heap.size := HB2.out.size
          clear hi hz0 hz1 hz2 hrd2 own1 news1 hs1 ba1
          go_upto_region 11 with (at_builtin; refine wpList_append_lies _ rfl (.tmp 31) (.tmp 32) 29 rfl w2.heap.size 38 i0 _ 7 104 Tryd.underlying29 HI.out HZ0.out HZ1.out HZ2.out rfl (by decide) (.slice (some ⟨w2.heap.size, 0, none⟩) 1 1) 1 (vnC tagN) rfl OWN1.out ⟨b, off, none⟩ L.length cap (vnsC L) rfl HLN.out NEWS1.out HON.out hne (by unfold maxLen; omega) (by omega) (by rw [HS1.out]; omega) _ HS1.out ?_; intro g1 c1 w3 hown1 hgr1 hat1 hlt1; have HO1 := Lib.hid hown1; have HG1 := Lib.hid hgr1; clear hown1 hgr1 hat1)
          have b3 : Below w2.heap.size w2 w3 := BA1.out.grown HG1.out (by rw [HS1.out]; omega) (by intro k hk; simp [Value.ownBlock] at hk; omega)
          have hw3 : w2.heap.size ≤ w3.heap.size := b3.size
          have hrd3 := HV.out.rd.since HV.out.rd.1 (HB2.out.trans (b3.mono hw2))
          have own2 : (w3.alloc (.cells #[.int .i64 4, .string ⟨#[]⟩, .string ⟨#[]⟩, .int .i64 0, .int .i64 1, .slice none 0 0, .slice none 0 0] 38)).ownsRow w3.heap.size 38 7 (.slice (some ⟨w3.heap.size, 0, none⟩) 1 1) 1 (vnC rowN) := World.ownsRow_lit w3 #[.int .i64 4, .string ⟨#[]⟩, .string ⟨#[]⟩, .int .i64 0, .int .i64 1, .slice none 0 0, .slice none 0 0] 1 (Nat.le_refl _) (by decide) rfl
          have news2 : Cells (w3.alloc (.cells #[.int .i64 4, .string ⟨#[]⟩, .string ⟨#[]⟩, .int .i64 0, .int .i64 1, .slice none 0 0, .slice none 0 0] 38)) b off (vnsC L) := hrd3.cells.of_block (Below.heap_alloc _ _ _ hrd3.1)
          have hs2 : (w3.alloc (.cells #[.int .i64 4, .string ⟨#[]⟩, .string ⟨#[]⟩, .int .i64 0, .int .i64 1, .slice none 0 0, .slice none 0 0] 38)).heap.size = w3.heap.size + 1 := by simp
          have ba2 : Below w3.heap.size w3 (w3.alloc (.cells #[.int .i64 4, .string ⟨#[]⟩, .string ⟨#[]⟩, .int .i64 0, .int .i64 1, .slice none 0 0, .slice none 0 0] 38)) := (Below.refl _ _).alloc (Nat.le_refl _) _
          have HB3 := Lib.hid (HB2.out.trans (b3.mono hw2))
          have OWN2 := Lib.hid own2
          have NEWS2 := Lib.hid news2.add
          have HS2 := Lib.hid hs2
          have BA2 := Lib.hid ba2
          clear b3 hrd3 own2 news2 hs2 ba2
          go_upto_region 13 with (at_builtin; refine wpList_append_lies _ rfl (.tmp 36) (.tmp 37) 29 rfl w3.heap.size 38 i0 _ 7 104 Tryd.underlying29 HI.out HZ0.out HZ1.out HZ2.out rfl (by decide) (.slice (some ⟨w3.heap.size, 0, none⟩) 1 1) 1 (vnC rowN) rfl OWN2.out ⟨b, off, none⟩ L.length cap (vnsC L) rfl HLN.out NEWS2.out HON.out hne (by unfold maxLen; omega) (by omega) (by rw [HS2.out]; omega) _ HS2.out ?_; intro g2 c2 w4 hown2 hgr2 hat2 hlt2; have HO2 := Lib.hid hown2; have HG2 := Lib.hid hgr2; clear hown2 hgr2 hat2)
          obtain ⟨n, r, hLn⟩ : ∃ n r, L = n :: r := by
            cases hL : L with
            | nil => rw [hL] at hne; simp at hne
            | cons n r => exact ⟨n, r, rfl⟩
          have hl0 : L[0]? = some n := by rw [hLn]; rfl
          have c8 : w4.cell? ⟨g2, 8, none⟩ = some (.string n.lab) := by
            have h1 := HO2.out.cellAt 8 (by omega)
            rw [h1, List.getElem?_append_right (by decide)]
            exact vnsC_at L 0 n 1 hl0 (by omega)
          have f8 : w4.frozen? ⟨g2, 8, none⟩ = false := HO2.out.frozenAt 8
          have hg1 : w2.heap.size ≤ g1 := (own_lt HO1.out (k := g1) rfl).1
          have hg2 : w3.heap.size ≤ g2 := (own_lt HO2.out (k := g2) rfl).1
          have p1 : (1 : Int) < 1 + L.length := by omega
          have hst := HO2.out.stored 8 (.string ⟨#[111, 110, 101]⟩)
          have hcs : (vnC rowN ++ vnsC L).set 8 (.string ⟨#[111, 110, 101]⟩) = vnsC (rowN :: { n with lab := ⟨#[111, 110, 101]⟩ } :: r) := by rw [hLn]; rfl
          rw [hcs] at hst
          have b45 : Below w3.heap.size w3 (w4.setCell ⟨g2, 8, none⟩ (.string ⟨#[111, 110, 101]⟩)) := (BA2.out.grown HG2.out (by rw [HS2.out]; omega) (by intro k hk; simp [Value.ownBlock] at hk; omega)).setCell hg2 _
          have rdt3 : RdV w3 g1 0 (tagN :: L) := RdV.of_cells hlt1 fun j u hj => by
            have hjl : j < (vnsC (tagN :: L)).length := by
              rcases Nat.lt_or_ge j (vnsC (tagN :: L)).length with h | h
              · exact h
              · rw [List.getElem?_eq_none h] at hj; cases hj
            rw [vnsC_len, List.length_cons] at hjl
            rw [Nat.zero_add, HO1.out.cellAt j (by omega)]
            exact hj
          have rdr5 : RdV (w4.setCell ⟨g2, 8, none⟩ (.string ⟨#[111, 110, 101]⟩)) g2 0 (rowN :: { n with lab := ⟨#[111, 110, 101]⟩ } :: r) := RdV.of_cells (by simp; exact hlt2) fun j u hj => by
            have hjl : j < (vnsC (rowN :: { n with lab := ⟨#[111, 110, 101]⟩ } :: r)).length := by
              rcases Nat.lt_or_ge j (vnsC (rowN :: { n with lab := ⟨#[111, 110, 101]⟩ } :: r)).length with h | h
              · exact h
              · rw [List.getElem?_eq_none h] at hj; cases hj
            have hrl : L.length = r.length + 1 := by rw [hLn]; rfl
            rw [vnsC_len, List.length_cons, List.length_cons] at hjl
            rw [Nat.zero_add, hst.1.cellAt j (by omega)]
            exact hj
          have HLN' := Lib.hid hLn
          have HB5 := Lib.hid (HB3.out.trans (b45.mono (by omega)))
          have RT5 := Lib.hid (rdt3.since hlt1 b45)
          have RR5 := Lib.hid rdr5
          clear hLn hl0 hst hcs b45 rdt3 rdr5
          go_upto_region 14 with (fail)
          obtain ⟨w5, hw5⟩ : ∃ w5, w4.setCell ⟨g2, 8, none⟩ (.string ⟨#[111, 110, 101]⟩) = w5 := ⟨_, rfl⟩
          rw [hw5] at HB5 RT5 RR5 ⊢
          have hE5 := HE.out.below HB5.out
          have hok := HV.out.ok HFP.out
          have hokt : ∀ x ∈ tagN :: L, VOk x := fun x hx => by
            rcases List.mem_cons.1 hx with rfl | hx
            · exact ⟨by decide, by decide, by decide, by decide⟩
            · exact hok x hx
          have hokr : ∀ x ∈ rowN :: { n with lab := ⟨#[111, 110, 101]⟩ } :: r, VOk x := fun x hx => by
            have hn := hok n (by rw [HLN'.out]; simp)
            rcases List.mem_cons.1 hx with rfl | hx
            · exact ⟨by decide, by decide, by decide, by decide⟩
            · rcases List.mem_cons.1 hx with rfl | hx
              · exact ⟨hn.1, hn.2.1, (by decide : (⟨#[111, 110, 101]⟩ : ByteArray).size ≤ 1000), hn.2.2.2⟩
              · exact hok x (by rw [HLN'.out]; simp [hx])
          have hdone := fun w hR hE => OutcomeDone b off cap 0 L L.length t L.length HSH.out w hR hE hok (by omega)
          have htag := fun w hR hE => Value g1 0 c1 (tagN :: L) (L.length + 1) _ _ (show_tag HSH.out) w hR hE hokt (by rw [List.length_cons]; omega)
          have hrow := fun w hR hE => Value g2 0 c2 (rowN :: { n with lab := ⟨#[111, 110, 101]⟩ } :: r) (L.length + 1) _ _ (show_row (by rw [← HLN'.out]; exact HSH.out)) w hR hE hokr (by have h := congrArg List.length HLN'.out; simp only [List.length_cons] at h ⊢; omega)
          have e1 : (tagN :: L).length = 1 + L.length := by rw [List.length_cons]; omega
          have e2 : (rowN :: { n with lab := ⟨#[111, 110, 101]⟩ } :: r).length = 1 + L.length := by rw [HLN'.out]; simp only [List.length_cons]; omega
          rw [HY.out] at hdone
          rw [e1] at htag
          rw [e2] at hrow
          have n1 : (⟨#[91, 83, 111, 109, 101, 58, 32]⟩ : ByteArray).size = 7 := rfl
          have n2 : (⟨#[123, 111, 110, 101, 58, 32]⟩ : ByteArray).size = 6 := rfl
          have n3 : (⟨#[93]⟩ : ByteArray).size = 1 := rfl
          have n4 : (⟨#[125]⟩ : ByteArray).size = 1 := rfl
          have f1 := fits_cat ⟨#[91, 83, 111, 109, 101, 58, 32]⟩ y (by omega)
          have f2 := fits_cat ⟨#[123, 111, 110, 101, 58, 32]⟩ y (by omega)
          obtain ⟨A1, hA1⟩ : ∃ A1, (⟨#[91, 83, 111, 109, 101, 58, 32]⟩ : ByteArray) ++ y = A1 := ⟨_, rfl⟩
          obtain ⟨A2, hA2⟩ : ∃ A2, (⟨#[123, 111, 110, 101, 58, 32]⟩ : ByteArray) ++ y = A2 := ⟨_, rfl⟩
          have s1 : A1.size = y.size + 7 := by rw [← hA1, ByteArray.size_append]; omega
          have s2 : A2.size = y.size + 6 := by rw [← hA2, ByteArray.size_append]; omega
          have f3 := fits_cat A1 ⟨#[93]⟩ (by omega)
          have f4 := fits_cat A2 ⟨#[125]⟩ (by omega)
          have f5 : (9223372036854775807 < A1.size + 1) = False := by simp; omega
          have f6 : (9223372036854775807 < A2.size + 1) = False := by simp; omega
          obtain ⟨B1, hB1⟩ : ∃ B1, A1 ++ (⟨#[93]⟩ : ByteArray) = B1 := ⟨_, rfl⟩
          obtain ⟨B2, hB2⟩ : ∃ B2, A2 ++ (⟨#[125]⟩ : ByteArray) = B2 := ⟨_, rfl⟩
          have t1 : (⟨([91, 83, 111, 109, 101, 58, 32] ++ t ++ [93]).toArray⟩ : ByteArray) = B1 := by
            have h : B1.data.toList = [91, 83, 111, 109, 101, 58, 32] ++ t ++ [93] := by rw [← hB1, ← hA1, app_data, app_data, HYL.out]
            exact (of_data h).symm
          have t2 : (⟨([123, 111, 110, 101, 58, 32] ++ t ++ [125]).toArray⟩ : ByteArray) = B2 := by
            have h : B2.data.toList = [123, 111, 110, 101, 58, 32] ++ t ++ [125] := by rw [← hB2, ← hA2, app_data, app_data, HYL.out]
            exact (of_data h).symm
          rw [t1] at htag
          rw [t2] at hrow
          have HE5 := Lib.hid hE5
          have HD := Lib.hid hdone
          have HTA := Lib.hid htag
          have HRO := Lib.hid hrow
          have hrd := HV.out.rd
          have HRD := Lib.hid hrd
          clear hE5 hok hokt hokr hdone htag hrow e1 e2 n1 n2 n3 n4 s1 s2 t1 t2 hw5 hrd c8 f8
          go_wp2_with fail
          refine (HD.out _ (HRD.out.since HRD.out.1 HB5.out) HE5.out).mono ?_
          rintro en w6 ⟨rfl, q6⟩
          dsimp only
          have HB6 := Lib.hid (HB5.out.trans (q6.mono HB5.out.size))
          have RT6 := Lib.hid (RT5.out.since RT5.out.1 q6)
          have RR6 := Lib.hid (RR5.out.since RR5.out.1 q6)
          have HE6 := Lib.hid (HE5.out.below q6)
          clear q6
          go_wp2_with fail
          refine (alive _ HE6.out).mono ?_
          rintro en w7 ⟨rfl, q7⟩
          dsimp only
          have HB7 := Lib.hid (HB6.out.trans (q7.mono HB6.out.size))
          have RT7 := Lib.hid (RT6.out.since RT6.out.1 q7)
          have RR7 := Lib.hid (RR6.out.since RR6.out.1 q7)
          have HE7 := Lib.hid (HE6.out.below q7)
          have py : decide (0 < y.size) = true := by simp; omega
          clear q7
          go_wp2_with fail
          refine (HTA.out _ RT7.out HE7.out).mono ?_
          rintro en w8 ⟨rfl, q8⟩
          dsimp only
          have HB8 := Lib.hid (HB7.out.trans (q8.mono HB7.out.size))
          have RR8 := Lib.hid (RR7.out.since RR7.out.1 q8)
          have HE8 := Lib.hid (HE7.out.below q8)
          clear q8
          go_wp2_with fail
          refine (HRO.out _ RR8.out HE8.out).mono ?_
          rintro en w9 ⟨rfl, q9⟩
          dsimp only
          have HB9 := Lib.hid (HB8.out.trans (q9.mono HB8.out.size))
          clear q9
          go_wp2_with fail
          go_ret
          exact ⟨rfl, HB9.out⟩

set_option maxHeartbeats 1000000 in
set_option maxRecDepth 100000 in
theorem Few19_none (A : Option Addr) (cap : Nat) (most : Int) (w : World) : Calls Tryd.prog 14 #[.slice A 0 cap, .int .i64 most] w fun e w' => e = .returned (.bool true) ∧ w = w' := by
  go_enter Tryd.func14, Tryd.ntmps14
  go_wp2_with fail
  refine wp_loop_rounds 1 ?_
  rw [rounds_succ]
  go_wp2_with fail
  go_ret
  exact ⟨rfl, rfl⟩
set_option maxHeartbeats 1000000 in
set_option maxRecDepth 100000 in
theorem law_rows_none (A : Option Addr) (cap : Nat) (w : World) (hE : Env w) :
    Calls Tryd.prog 6 #[.slice A 0 cap] w fun en w' => en = .returned (.bool true) ∧ Below w.heap.size w w' := by
  have HE := Lib.hid hE
  clear hE
  go_enter Tryd.func6, Tryd.ntmps6
  go_wp2_with fail
  refine (Few19_none A cap _ _).mono ?_
  rintro en w0 ⟨rfl, rfl⟩
  dsimp only
  go_wp2_with fail
  refine (Right19_none A cap _).mono ?_
  rintro en w1 ⟨rfl, b1⟩
  dsimp only
  have HB1 := Lib.hid b1
  have HE1 := Lib.hid (HE.out.below b1)
  clear b1
  go_wp2_with fail
  refine (alive _ HE1.out).mono ?_
  rintro en w2 ⟨rfl, b2⟩
  dsimp only
  have HB2 := Lib.hid (HB1.out.trans (b2.mono HB1.out.size))
  clear b2
  go_wp2_with fail
  go_ret
  exact ⟨rfl, HB2.out⟩
end Shw
end Go.Proofs.YthamcklkmchkiaaDoor
