/-
  DERIVED. LAYER 7 (prec), the reference's, walked: a type's children; do types agree (that it answers).
-/
import Derived.Test.YthamcklkmchkiaaDoorShRef03
namespace Go.Proofs.YthamcklkmchkiaaDoor
open Go.RowKit
namespace Shw
open Gl Glw Sh

theorem infoTy : (Tryd.prog.info? 36).map (fun i => (i.zero, i.size, i.bytes)) = some (some (.slice none 0 0), 1, 24) := by kernel_rfl

/-- A slice of so many texts of the call's own. -/
def Labs (w : World) (base : Nat) (v : Go.Value) (n : Nat) : Prop := ∃ ys : List ByteArray, ys.length = n ∧ w.ownsRow base 9 1 v n (ys.map Go.Value.string)
theorem Labs.below {w w' : World} {base n : Nat} {v : Go.Value} (h : Labs w base v n) (hb : Below w.heap.size w w') : Labs w' base v n := by
  obtain ⟨ys, h1, h2⟩ := h
  exact ⟨ys, h1, own_keep h2 fun k hk => hb.block k (own_lt h2 hk).2⟩
theorem Labs.at_ {w : World} {base n : Nat} {v : Go.Value} (h : Labs w base v n) {i : Nat} (hi : i < n) : ∃ g cap y, v = .slice (some ⟨g, 0, none⟩) n cap ∧ g < w.heap.size ∧ w.cell? ⟨g, i, none⟩ = some (.string y) := by
  obtain ⟨ys, h1, h2⟩ := h
  obtain ⟨g, cap, hv, hb, hg⟩ := World.ownsRow.form h2 (by omega)
  subst hv
  refine ⟨g, cap, ys[i]'(by omega), rfl, hg, ?_⟩
  rw [World.ownsRow.cellAt h2 i (by omega), List.getElem?_map, List.getElem?_eq_getElem (by omega : i < ys.length)]
  rfl
/-- The types of a node's first children. -/
def partsT (L : List TN) (ps : List Nat) : List (List Go.Value) := ps.map fun p => tnsC (partT L p)

theorem kidsT_few (L : List TN) (hL : L.length ≤ 1000000) : (kidsT L 0).length ≤ 1000000 := by
  unfold kidsT
  split
  · simp
  · have := kidPos_len L (manyT ‹TN›).toNat (0 + 1)
    omega

set_option maxHeartbeats 4000000 in
set_option maxRecDepth 100000 in
theorem kids07 (b off cap : Nat) (L : List TN) (hne : 0 < L.length) (hcap : L.length ≤ cap) (w : World) (hRV : RdT w b off L) (hL : L.length ≤ 1000000) :
    Calls Tryd.prog 102 #[.slice (some ⟨b, off, none⟩) L.length cap] w fun e w' => ∃ u v, e = .returned (.tuple #[u, v]) ∧ RowsOf w' w.heap.size 36 66 3 u (partsT L (kidsT L 0)) ∧ Labs w' w.heap.size v (kidsT L 0).length ∧ Below w.heap.size w w' := by
  obtain ⟨i0, hi, hz0, hz1, hz2⟩ := info_parts infoTy
  obtain ⟨j0, hj, hy0, hy1, hy2⟩ := info_parts infoStr
  have HI := Lib.hid hi
  have HZ0 := Lib.hid hz0
  have HZ1 := Lib.hid hz1
  have HZ2 := Lib.hid hz2
  have HJ := Lib.hid hj
  have HY0 := Lib.hid hy0
  have HY1 := Lib.hid hy1
  have HY2 := Lib.hid hy2
  have HRV := Lib.hid hRV
  have hb0 : Below w.heap.size w ((w.alloc (.cells #[] 36)).alloc (.cells #[] 9)) := ((Below.refl _ _).alloc (Nat.le_refl _) _).alloc (by simp) _
  have HB0 := Lib.hid hb0
  have hK := Kids03 b off cap 0 L hne _ (hRV.since hRV.1 hb0) hL
  have hs0 : ((w.alloc (.cells #[] 36)).alloc (.cells #[] 9)).heap.size = w.heap.size + 2 := by simp
  rw [hs0] at hK
  have HK := Lib.hid hK
  have hkp : ∀ p ∈ kidsT L 0, p < L.length := fun p hp => by
    unfold kidsT at hp
    split at hp
    · simp at hp
    · exact (kidPos_lt L _ _ p hp).2
  have hkl : (kidsT L 0).length ≤ 1000000 := by
    unfold kidsT
    split
    · simp
    · have := kidPos_len L (manyT ‹TN›).toNat (0 + 1)
      omega
  obtain ⟨ps, hps⟩ : ∃ ps, kidsT L 0 = ps := ⟨_, rfl⟩
  rw [hps] at HK hkp hkl ⊢
  have HKP := Lib.hid hkp
  have hP := fun p w hp hR => Part03 b off cap p L hp hcap w hR hL
  have HP := Lib.hid hP
  have h0r : RowsOf ((w.alloc (.cells #[] 36)).alloc (.cells #[] 9)) w.heap.size 36 66 3 (.slice (some ⟨w.heap.size, 0, none⟩) 0 0) [] :=
    (RowsOf.empty w w.heap.size 36 66 3 (Nat.le_refl _)).below ((Below.refl _ _).alloc (Nat.le_refl _) _)
  have h0l : Labs ((w.alloc (.cells #[] 36)).alloc (.cells #[] 9)) w.heap.size (.slice (some ⟨w.heap.size + 1, 0, none⟩) 0 0) 0 := by
    refine ⟨[], rfl, ?_⟩
    have := World.ownsRow_lit (base := w.heap.size) (e := 9) (size := 1) (w.alloc (.cells #[] 36)) #[] 0 (by simp) (Nat.zero_le _) rfl
    rw [show (w.alloc (.cells #[] 36)).heap.size = w.heap.size + 1 by simp] at this
    exact this
  have H0R := Lib.hid h0r
  have H0L := Lib.hid h0l
  clear hi hz0 hz1 hz2 hj hy0 hy1 hy2 hRV hb0 hK hs0 hkp hP hps h0r h0l
  go_enter Tryd.func102, Tryd.ntmps102
  go_wp2_with fail
  refine HK.out.mono ?_
  rintro e w1 ⟨v, rfl, hints, q1⟩
  dsimp only
  have hform : ∃ A cp, v = .slice A ps.length cp := by
    rcases hints.2 with ⟨rfl, h0⟩ | ⟨g, cp, cur, rfl, _⟩
    · exact ⟨none, 0, by rw [h0]⟩
    · exact ⟨_, cp, rfl⟩
  obtain ⟨A, cp, hv⟩ := hform
  rw [hv] at hints ⊢
  have q1' : Below ((w.alloc (.cells #[] 36)).alloc (.cells #[] 9)).heap.size ((w.alloc (.cells #[] 36)).alloc (.cells #[] 9)) w1 := by simpa using q1
  have HB1 := Lib.hid (HB0.out.trans (q1'.mono (by simp; omega)))
  have H1R := Lib.hid (H0R.out.below q1')
  have H1L := Lib.hid (H0L.out.below q1')
  have H1I := Lib.hid hints
  clear hv hints q1 q1' HK
  go_wp2_with fail
  go_loopw [4, 5, 7] (fun u v i wr => ∃ k : Nat, i = .int .i64 k ∧ k ≤ ps.length ∧ RowsOf wr w.heap.size 36 66 3 u (partsT L (ps.take k)) ∧ Labs wr w.heap.size v k ∧
    Ints wr (w.heap.size + 2) (.slice A ps.length cp) ps ∧ Below w.heap.size w wr) (fun _ _ i _ => ps.length - (intOf i).toNat)
  case atStart => exact ⟨0, rfl, Nat.zero_le _, H1R.out, H1L.out, H1I.out, HB1.out⟩
  case round =>
    obtain ⟨k, rfl, hk, hrows, hlabs, hints, hB⟩ := hrel
    have HRW := Lib.hid hrows
    have HLB := Lib.hid hlabs
    have HIN := Lib.hid hints
    have HB := Lib.hid hB
    clear hrows hlabs hints hB
    by_cases hlt : k < ps.length
    · obtain ⟨p, hp⟩ : ∃ p, ps[k]? = some p := ⟨_, List.getElem?_eq_getElem hlt⟩
      obtain ⟨g, cp', hA, _, hgb, hg, hc⟩ := HIN.out.at_ hp
      simp only [Value.slice.injEq, true_and] at hA
      obtain ⟨rfl, rfl⟩ := hA
      have hpl : p < L.length := HKP.out p (List.mem_of_getElem? hp)
      have hk0 : (0 : Int) ≤ k := by omega
      have hlt' : (k : Int) < ps.length := by omega
      have htake : ps.take (k + 1) = ps.take k ++ [p] := by
        rw [List.take_add_one, hp]; rfl
      have HTK := Lib.hid htake
      have HPK := Lib.hid hp
      clear hp htake
      go_wp2_with fail
      refine (HP.out p _ hpl (HRV.out.since HRV.out.1 HB.out)).mono ?_
      rintro e w2 ⟨g1, c1, rfl, hc1, hg1, hrd, hty, q2⟩
      dsimp only
      obtain ⟨xs, hxs, _⟩ := HRW.out
      have hml : (partsT L (ps.take k)).length = k := by unfold partsT; rw [List.length_map, List.length_take]; omega
      rw [hml] at hxs
      obtain ⟨m, hm⟩ : ∃ m, (partT L p).length = m := ⟨_, rfl⟩
      rw [hm] at hc1 ⊢
      have hbw : w.heap.size ≤ wr.heap.size := HB.out.size
      have hwr2 : wr.heap.size ≤ w2.heap.size := q2.size
      have hbW : Below wr.heap.size wr (w2.alloc (.cells #[.slice (some ⟨g1, 0, none⟩) m c1] 36)) := q2.alloc q2.size _
      have hsW : (w2.alloc (.cells #[.slice (some ⟨g1, 0, none⟩) m c1] 36)).heap.size = w2.heap.size + 1 := by simp
      have ownW := own_keep hxs (fun k hk => hbW.block k (own_lt hxs hk).2)
      have HXS := Lib.hid hxs
      have HML := Lib.hid hml
      have HBW := Lib.hid hbW
      have HSW := Lib.hid hsW
      have OWN := Lib.hid ownW
      have HM := Lib.hid hm
      have HRD := Lib.hid hrd
      have HTY := Lib.hid hty
      have HLW := Lib.hid (HLB.out.below hbW)
      have HIW := Lib.hid (HIN.out.below hbW)
      have hg1b : g1 < w2.heap.size := hrd.1
      clear hxs hml hbW hsW ownW hm hrd hty q2
      go_upto_region 7 with (at_builtin; refine wpList_append_lies _ rfl (.tmp 18) (.tmp 25) 129 rfl w.heap.size 36 i0 _ 1 24 Tryd.underlying129 HI.out HZ0.out HZ1.out HZ2.out rfl (by decide) u4 _ _ rfl OWN.out ⟨w2.heap.size, 0, none⟩ 1 1 [.slice (some ⟨g1, 0, none⟩) m c1] rfl rfl (cell_one_new _ _ _) (by intro u hu; rw [List.mem_singleton.1 hu]; rfl) (by decide) (by unfold maxLen; omega) (by omega) (by rw [HSW.out]; omega) _ HSW.out ?_; intro g2 cap2 w4 hown2 hgr2 hat2 hlt2; have HO2 := Lib.hid hown2; have HG2 := Lib.hid hgr2; have HA2 := Lib.hid hat2; clear hown2 hgr2 hat2)
      have hi4 : Ints w4 (w.heap.size + 2) (.slice (some ⟨g, 0, none⟩) ps.length cp) ps := own_apart HIW.out OWN.out HG2.out (by decide)
      have hb4 : Below w.heap.size w w4 := (HB.out.trans (HBW.out.mono hbw)).grown HG2.out (by rw [HSW.out]; omega) (fun k hk => (own_lt OWN.out hk).1)
      have hc4 : w4.cell? ⟨g, k, none⟩ = some (.int .i64 (p : Nat)) := by
        obtain ⟨ga, ca, hA, _, _, _, hc⟩ := hi4.at_ HPK.out
        simp only [Value.slice.injEq, Option.some.injEq, Addr.mk.injEq, and_true, true_and] at hA
        obtain ⟨rfl, rfl⟩ := hA
        exact hc
      obtain ⟨y, _, d0, d1, d2⟩ := (HRV.out.since HRV.out.1 hb4).at_ hpl
      have hp0 : (0 : Int) ≤ p := by omega
      have hp1 : (p : Int) < L.length := by omega
      obtain ⟨ys, hyl, hlw⟩ := HLW.out
      have hl4 : w4.ownsRow w.heap.size 9 1 u5 k (ys.map Go.Value.string) := own_apart hlw OWN.out HG2.out (by decide)
      have hbX : Below w4.heap.size w4 (w4.alloc (.cells #[.string y.nm] 9)) := (Below.refl _ _).alloc (Nat.le_refl _) _
      have hsX : (w4.alloc (.cells #[.string y.nm] 9)).heap.size = w4.heap.size + 1 := by simp
      have hw24 : w2.heap.size + 1 ≤ w4.heap.size := by have := HG2.out.size; rw [HSW.out] at this; exact this
      have hown4 : w4.ownsRow w.heap.size 36 1 (.slice (some ⟨g2, 0, none⟩) (k + 1) cap2) (k + 1) (xs ++ [.slice (some ⟨g1, 0, none⟩) m c1]) := HO2.out
      have hr4 : RowsOf w4 w.heap.size 36 66 3 (.slice (some ⟨g2, 0, none⟩) (k + 1) cap2) (partsT L (ps.take (k + 1))) := by
        rw [HTK.out]
        unfold partsT
        rw [List.map_append]
        have hmm : ((ps.take k).map fun p => tnsC (partT L p)).length = k := HML.out
        have hcells : Cells (w2.alloc (.cells #[.slice (some ⟨g1, 0, none⟩) m c1] 36)) g1 0 (tnsC (partT L p)) := (HRD.out.cells).of_block (Below.heap_alloc _ _ _ hg1b)
        obtain ⟨cs, fr, hty⟩ := HTY.out
        refine RowsOf.push (n := m) HRW.out (by rw [hmm]; exact HXS.out) HBW.out hg1 (by rw [HSW.out]; omega) (by rw [tnsC_len, HM.out]) hc1 ⟨cs, fr, (Below.heap_alloc _ _ _ hg1b).trans hty⟩ hcells (by rw [hmm]; exact hown4) HG2.out ?_ hbw
        rcases HA2.out with h | h
        · exact .inl h.symm
        · right; rw [HSW.out, ← h]; rfl
      have HL4 := Lib.hid (own_keep hl4 fun k hk => hbX.block k (own_lt hl4 hk).2)
      have HR4 := Lib.hid (hr4.below hbX)
      have HIX := Lib.hid (hi4.below hbX)
      have HBX := Lib.hid (hb4.alloc hb4.size (.cells #[.string y.nm] 9))
      have HSX := Lib.hid hsX
      have HYL := Lib.hid hyl
      have hw4 : w.heap.size ≤ w4.heap.size := hb4.size
      clear hyl hlw hl4 hbX hsX hown4 hr4 hi4 hb4 HP
      go_wp2_with (at_builtin; refine wpList_append_lies _ rfl (.tmp 27) (.tmp 36) 52 rfl w.heap.size 9 j0 _ 1 16 Tryd.underlying52 HJ.out HY0.out HY1.out HY2.out rfl (by decide) u5 _ _ rfl HL4.out ⟨w4.heap.size, 0, none⟩ 1 1 [.string y.nm] rfl rfl (cell_one_new _ _ _) (by intro u hu; rw [List.mem_singleton.1 hu]; rfl) (by decide) (by unfold maxLen; omega) (by omega) (by rw [HSX.out]; omega) _ HSX.out ?_; intro g3 cap3 w5 hown3 hgr3 hat3 hlt3; have HO3 := Lib.hid hown3; have HG3 := Lib.hid hgr3; clear hown3 hgr3 hat3)
      refine ⟨⟨k + 1, by simp, by omega, HR4.out.apart HL4.out HG3.out (by decide) (by decide), ⟨ys ++ [y.nm], by rw [List.length_append, HYL.out]; rfl, by rw [List.map_append]; exact HO3.out⟩, own_apart HIX.out HL4.out HG3.out (by decide), HBX.out.grown HG3.out (by rw [HSX.out]; omega) (fun k hk => (own_lt HL4.out hk).1)⟩, by simp [intOf]; omega⟩
    · obtain rfl : k = ps.length := by omega
      have hr := HRW.out
      rw [List.take_length] at hr
      have HR := Lib.hid hr
      clear hr
      go_wp2_with fail
      go_ret2
      exact ⟨_, _, rfl, HR.out, HLB.out, HB.out⟩

theorem own_form {w : World} {base e size n : Nat} {v : Go.Value} {xs : List Go.Value} (h : w.ownsRow base e size v n xs) : ∃ A c, v = .slice A n c := by
  rcases h.2 with ⟨rfl, h0⟩ | ⟨g, cp, cur, rfl, _⟩
  · exact ⟨none, 0, by rw [h0]⟩
  · exact ⟨_, cp, rfl⟩

def AlikePost (L M : List TN) (w : World) (e : Ending) (w' : World) : Prop := ∃ bo : Bool, e = .returned (.bool bo) ∧ (bo = true → (kidsT L 0).length = (kidsT M 0).length) ∧ Below w.heap.size w w'
theorem alike_false {L M : List TN} {w w' : World} (h : Below w.heap.size w w') : AlikePost L M w (.returned (.bool false)) w' := ⟨false, rfl, fun h => by simp at h, h⟩

set_option maxHeartbeats 4000000 in
set_option maxRecDepth 100000 in
theorem alike07 (b off cap b' off' cap' : Nat) (L M : List TN) (hne : 0 < L.length) (hne' : 0 < M.length) (hcap : L.length ≤ cap) (hcap' : M.length ≤ cap') (w : World) (hR : RdT w b off L) (hR' : RdT w b' off' M) (hL : L.length ≤ 1000000) (hM : M.length ≤ 1000000) :
    Calls Tryd.prog 101 #[.slice (some ⟨b, off, none⟩) L.length cap, .slice (some ⟨b', off', none⟩) M.length cap'] w (AlikePost L M w) := by
  obtain ⟨x, _, a0, _, _⟩ := hR.at_ hne
  obtain ⟨y, _, c0, _, _⟩ := hR'.at_ hne'
  simp only [Nat.zero_mul, Nat.add_zero] at a0 c0
  have hk1 := fun w hR => kids07 b off cap L hne hcap w hR hL
  have hk2 := fun w hR => kids07 b' off' cap' M hne' hcap' w hR hM
  have HK1 := Lib.hid hk1
  have HK2 := Lib.hid hk2
  have HR := Lib.hid hR
  have HR' := Lib.hid hR'
  have hp0 : (0 : Int) < L.length := by omega
  have hp1 : (0 : Int) < M.length := by omega
  clear hk1 hk2 hR hR'
  by_cases hxy : x.k = y.k
  · have q : (x.k != y.k) = false := by rw [bne_eq_false_iff_eq]; exact hxy
    clear hxy
    go_enter Tryd.func101, Tryd.ntmps101
    go_wp2_with fail
    go_quiet (fail)
    have hbq : Below w.heap.size w (w.drewN nq) := ⟨rfl, rfl, rfl, Nat.le_refl _, fun _ _ => rfl⟩
    have HBQ := Lib.hid hbq
    clear hbq a0 c0
    go_wp2_with fail
    refine (HK1.out _ (HR.out.since HR.out.1 HBQ.out)).mono ?_
    rintro e w1 ⟨t1, l1, rfl, _, hl1, q1⟩
    dsimp only
    have q1' : Below w.heap.size (w.drewN nq) w1 := q1
    have HB1 := Lib.hid (HBQ.out.trans q1')
    have HL1 := Lib.hid hl1
    clear q1 q1' hl1
    go_wp2_with fail
    refine (HK2.out _ (HR'.out.since HR'.out.1 HB1.out)).mono ?_
    rintro e w2 ⟨t2, l2, rfl, _, hl2, q2⟩
    dsimp only
    have HB2 := Lib.hid (HB1.out.trans (q2.mono HB1.out.size))
    have h1 : Labs w2 w.heap.size l1 (kidsT L 0).length := (show Labs w1 w.heap.size l1 (kidsT L 0).length from HL1.out).below q2
    have h2 : Labs w2 w1.heap.size l2 (kidsT M 0).length := hl2
    have f1 : ∃ A c, l1 = .slice A (kidsT L 0).length c := by obtain ⟨_, _, h⟩ := h1; exact own_form h
    have f2 : ∃ A c, l2 = .slice A (kidsT M 0).length c := by obtain ⟨_, _, h⟩ := h2; exact own_form h
    obtain ⟨A1, c1, e1⟩ := f1
    obtain ⟨A2, c2, e2⟩ := f2
    rw [e1] at h1 ⊢
    rw [e2] at h2 ⊢
    obtain ⟨n1, hn1⟩ : ∃ n1, (kidsT L 0).length = n1 := ⟨_, rfl⟩
    obtain ⟨n2, hn2⟩ : ∃ n2, (kidsT M 0).length = n2 := ⟨_, rfl⟩
    rw [hn1] at h1 ⊢
    rw [hn2] at h2 ⊢
    have H1 := Lib.hid h1
    have H2 := Lib.hid h2
    have hn1b : n1 ≤ 1000000 := by
      rw [← hn1]
      exact kidsT_few L hL
    have HN1 := Lib.hid hn1
    have HN2 := Lib.hid hn2
    clear q2 hl2 h1 h2 e1 e2 hn1 hn2 HL1 HK1 HK2
    by_cases hn : n1 = n2
    · subst hn
      have qn : ((n1 : Int) != n1) = false := by simp
      go_wp2_with fail
      go_loopw [9] (fun i wr => ∃ k : Nat, i = .int .i64 k ∧ k ≤ n1 ∧ Labs wr w.heap.size (.slice A1 n1 c1) n1 ∧ Labs wr w1.heap.size (.slice A2 n1 c2) n1 ∧ Below w.heap.size w wr) (fun i _ => n1 - (intOf i).toNat)
      case atStart => exact ⟨0, rfl, Nat.zero_le _, H1.out, H2.out, HB2.out⟩
      case round =>
        obtain ⟨k, rfl, hk, h1, h2, hB⟩ := hrel
        have HA := Lib.hid h1
        have HC := Lib.hid h2
        have HB := Lib.hid hB
        by_cases hlt : k < n1
        · obtain ⟨g1, cp1, y1, e1, hg1, d1⟩ := h1.at_ hlt
          obtain ⟨g2, cp2, y2, e2, hg2, d2⟩ := h2.at_ hlt
          simp only [Value.slice.injEq, true_and] at e1 e2
          obtain ⟨rfl, rfl⟩ := e1
          obtain ⟨rfl, rfl⟩ := e2
          have hk0 : (0 : Int) ≤ k := by omega
          have hlt' : (k : Int) < n1 := by omega
          clear h1 h2 hB
          go_wp2_with fail
          go_quiet (fail)
          have HBQ := Lib.hid (show Below w.heap.size w (wr.drewN nq) from ⟨HB.out.os, HB.out.tape, HB.out.output, HB.out.size, HB.out.block⟩)
          have HAQ := Lib.hid (show Labs (wr.drewN nq) w.heap.size (.slice (some ⟨g1, 0, none⟩) n1 c1) n1 from HA.out)
          have HCQ := Lib.hid (show Labs (wr.drewN nq) w1.heap.size (.slice (some ⟨g2, 0, none⟩) n1 c2) n1 from HC.out)
          go_wp2_with fail
          all_goals first | (go_ret; exact alike_false HBQ.out) | exact ⟨⟨k + 1, by simp, by omega, HAQ.out, HCQ.out, HBQ.out⟩, by simp [intOf]; omega⟩
        · obtain rfl : k = n1 := by omega
          go_wp2_with fail
          go_ret
          exact ⟨true, rfl, fun _ => HN1.out.trans HN2.out.symm, HB.out⟩
    · have qn : ((n1 : Int) != n2) = true := by rw [bne_iff_ne]; omega
      clear hn
      go_wp2_with fail
      go_ret
      exact alike_false HB2.out
  · have q : (x.k != y.k) = true := by rw [bne_iff_ne]; exact hxy
    clear hxy
    go_enter Tryd.func101, Tryd.ntmps101
    go_wp2_with fail
    go_quiet (fail)
    have hbq : Below w.heap.size w (w.drewN nq) := ⟨rfl, rfl, rfl, Nat.le_refl _, fun _ _ => rfl⟩
    have HBQ := Lib.hid hbq
    clear hbq
    go_wp2_with fail
    go_ret
    exact alike_false HBQ.out
end Shw
end Go.Proofs.YthamcklkmchkiaaDoor
