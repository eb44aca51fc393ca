/-
  DERIVED. LAYER 7 (prec), the reference's, walked: do types agree (that it answers).
-/
import Derived.Test.YthamcklkmchkiaaDoorShRef07
import Derived.StillTailTactics
namespace Go.Proofs.YthamcklkmchkiaaDoor
open Go.RowKit
namespace Shw
open Gl Glw Sh

theorem kidsT_lt (L : List TN) (p : Nat) (h : p ∈ kidsT L 0) : 1 ≤ p ∧ p < L.length := by
  unfold kidsT at h
  split at h
  · simp at h
  · exact kidPos_lt L _ _ p h

set_option maxHeartbeats 4000000 in
set_option maxRecDepth 100000 in
theorem Agree07 : ∀ (N : Nat) (b off cap b' off' cap' : Nat) (L M : List TN), L.length + M.length ≤ N → 0 < L.length → 0 < M.length → L.length ≤ cap → M.length ≤ cap' → ∀ (w : World), RdT w b off L → RdT w b' off' M → N ≤ 1000000 →
    Calls Tryd.prog 88 #[.slice (some ⟨b, off, none⟩) L.length cap, .slice (some ⟨b', off', none⟩) M.length cap'] w fun e w' => ∃ bo : Bool, e = .returned (.bool bo) ∧ Below w.heap.size w w' := by
  intro N
  induction N with
  | zero => intro b off cap b' off' cap' L M h h1; omega
  | succ N ih =>
    intro b off cap b' off' cap' L M hN hne hne' hcap hcap' w hR hR' hNN
    have IH := Lib.hid ih
    clear ih
    obtain ⟨x, _, a0, _, _⟩ := hR.at_ hne
    obtain ⟨y, _, c0, _, _⟩ := hR'.at_ hne'
    simp only [Nat.zero_mul, Nat.add_zero] at a0 c0
    have hk1 := fun w hR => kids07 b off cap L hne hcap w hR (by omega)
    have hk2 := fun w hR => kids07 b' off' cap' M hne' hcap' w hR (by omega)
    have hal := alike07 b off cap b' off' cap' L M hne hne' hcap hcap' w hR hR' (by omega) (by omega)
    have HK1 := Lib.hid hk1
    have HK2 := Lib.hid hk2
    have HAL := Lib.hid hal
    have HR := Lib.hid hR
    have HR' := Lib.hid hR'
    have hp0 : (0 : Int) < L.length := by omega
    have hp1 : (0 : Int) < M.length := by omega
    clear hk1 hk2 hal hR hR'
    by_cases hx : x.k = 0
    · have qx : (x.k == 0) = true := by rw [beq_iff_eq]; exact hx
      clear hx
      go_enter Tryd.func88, Tryd.ntmps88
      go_wp2_with fail
      go_ret
      exact ⟨true, rfl, Below.refl _ _⟩
    · have qx : (x.k == 0) = false := by rw [beq_eq_false_iff_ne]; exact hx
      clear hx
      by_cases hy : y.k = 0
      · have qy : (y.k == 0) = true := by rw [beq_iff_eq]; exact hy
        clear hy
        go_enter Tryd.func88, Tryd.ntmps88
        go_wp2_with fail
        go_ret
        exact ⟨true, rfl, Below.refl _ _⟩
      · have qy : (y.k == 0) = false := by rw [beq_eq_false_iff_ne]; exact hy
        clear hy
        go_enter Tryd.func88, Tryd.ntmps88
        go_wp2_with fail
        refine HAL.out.mono ?_
        rintro e w0 ⟨bo, rfl, hbo, q0⟩
        dsimp only
        have HB0 := Lib.hid q0
        have HBO := Lib.hid hbo
        clear q0 hbo HAL a0 c0
        cases bo with
        | false =>
          go_wp2_with fail
          go_ret
          exact ⟨false, rfl, HB0.out⟩
        | true =>
          go_wp2_with fail
          refine (HK1.out _ (HR.out.since HR.out.1 HB0.out)).mono ?_
          rintro e w1 ⟨t1, l1, rfl, ht1, _, q1⟩
          dsimp only
          have HB1 := Lib.hid (HB0.out.trans (q1.mono HB0.out.size))
          have HT1 := Lib.hid ht1
          have hw01 : w.heap.size ≤ w0.heap.size := HB0.out.size
          clear q1 ht1
          go_wp2_with fail
          refine (HK2.out _ (HR'.out.since HR'.out.1 HB1.out)).mono ?_
          rintro e w2 ⟨t2, l2, rfl, ht2, _, q2⟩
          dsimp only
          have HB2 := Lib.hid (HB1.out.trans (q2.mono HB1.out.size))
          have h1 : RowsOf w2 w0.heap.size 36 66 3 t1 (partsT L (kidsT L 0)) := HT1.out.below q2
          have f1 : ∃ A c, t1 = .slice A (partsT L (kidsT L 0)).length c := by obtain ⟨_, h, _⟩ := h1; exact own_form h
          have f2 : ∃ A c, t2 = .slice A (partsT M (kidsT M 0)).length c := by obtain ⟨_, h, _⟩ := ht2; exact own_form h
          obtain ⟨A1, c1, e1⟩ := f1
          obtain ⟨A2, c2, e2⟩ := f2
          have hl1 : (partsT L (kidsT L 0)).length = (kidsT L 0).length := by unfold partsT; rw [List.length_map]
          have hl2 : (partsT M (kidsT M 0)).length = (kidsT L 0).length := by unfold partsT; rw [List.length_map, HBO.out (by simp)]
          rw [hl1] at e1
          rw [hl2] at e2
          rw [e1] at h1 ⊢
          rw [e2] at ht2 ⊢
          obtain ⟨n1, hn1⟩ : ∃ n1, (kidsT L 0).length = n1 := ⟨_, rfl⟩
          rw [hn1] at h1 ht2 hl1 hl2 ⊢
          have H1 := Lib.hid h1
          have H2 := Lib.hid ht2
          have HL1 := Lib.hid hl1
          have HL2 := Lib.hid hl2
          have hn1b : n1 ≤ 1000000 := by
            rw [← hn1]
            exact kidsT_few L (by omega)
          clear q2 ht2 h1 e1 e2 hn1 hl1 hl2 HT1 HK1 HK2
          go_wp2_with fail
          go_loopw [9] (fun i wr => ∃ k : Nat, i = .int .i64 k ∧ k ≤ n1 ∧ RowsOf wr w0.heap.size 36 66 3 (.slice A1 n1 c1) (partsT L (kidsT L 0)) ∧ RowsOf wr w1.heap.size 36 66 3 (.slice A2 n1 c2) (partsT M (kidsT M 0)) ∧ Below w.heap.size w wr) (fun i _ => n1 - (intOf i).toNat)
          case atStart => exact ⟨0, rfl, Nat.zero_le _, H1.out, H2.out, HB2.out⟩
          case round =>
            obtain ⟨k, rfl, hk, h1, h2, hB⟩ := hrel
            have HA := Lib.hid h1
            have HC := Lib.hid h2
            have HB := Lib.hid hB
            by_cases hlt : k < n1
            · obtain ⟨p1, hp1⟩ : ∃ p1, (kidsT L 0)[k]? = some p1 := ⟨_, List.getElem?_eq_getElem (by have := HL1.out; unfold partsT at this; rw [List.length_map] at this; omega)⟩
              obtain ⟨p2, hp2⟩ : ∃ p2, (kidsT M 0)[k]? = some p2 := ⟨_, List.getElem?_eq_getElem (by have := HL2.out; unfold partsT at this; rw [List.length_map] at this; omega)⟩
              obtain ⟨b1, cp1, g1, m1, d1, e1, _, _, hb1, x1, hm1, hd1, _, hg1, hc1⟩ := h1.row (i := k) (l := tnsC (partT L p1)) (by unfold partsT; rw [List.getElem?_map, hp1]; rfl)
              obtain ⟨b2, cp2, g2, m2, d2, e2, _, _, hb2, x2, hm2, hd2, _, hg2, hc2⟩ := h2.row (i := k) (l := tnsC (partT M p2)) (by unfold partsT; rw [List.getElem?_map, hp2]; rfl)
              rw [HL1.out] at e1
              rw [HL2.out] at e2
              simp only [Value.slice.injEq, true_and] at e1 e2
              obtain ⟨rfl, rfl⟩ := e1
              obtain ⟨rfl, rfl⟩ := e2
              have hk0 : (0 : Int) ≤ k := by omega
              have hlt' : (k : Int) < n1 := by omega
              have v1 := kidsT_lt L p1 (List.mem_of_getElem? hp1)
              have v2 := kidsT_lt M p2 (List.mem_of_getElem? hp2)
              have u1 := partT_len L p1 v1.2
              have u2 := partT_len M p2 v2.2
              have t1 := endT_drop L p1 v1.2
              have t2 := endT_drop M p2 v2.2
              have y1 : m1 = (partT L p1).length := by rw [tnsC_len] at hm1; omega
              have y2 : m2 = (partT M p2).length := by rw [tnsC_len] at hm2; omega
              subst y1 y2
              have z1 : 0 < (partT L p1).length := by omega
              have z2 : 0 < (partT M p2).length := by omega
              have z3 : (partT L p1).length + (partT M p2).length ≤ N := by omega
              have Z1 := Lib.hid hc1
              have Z2 := Lib.hid hc2
              clear h1 h2 hB v1 v2 u1 u2 t1 t2 hm1 hm2 hp1 hp2
              go_wp2_with fail
              go_still_tail 8, (by kernel_rfl)
              change wpList _ _ _ _ _ wr.drew
              have hbd : Below wr.heap.size wr wr.drew := (Below.refl _ _).drew
              generalize wr.drew = w3 at hbd ⊢
              have HB3 := Lib.hid (HB.out.trans (hbd.mono HB.out.size))
              have HA3 := Lib.hid (HA.out.below hbd)
              have HC3 := Lib.hid (HC.out.below hbd)
              have hr1 : RdT w3 g1 0 (partT L p1) := RdT.of_cells (Nat.lt_of_lt_of_le hg1 hbd.size) (Z1.out.of_block (hbd.block g1 hg1))
              have hr2 : RdT w3 g2 0 (partT M p2) := RdT.of_cells (Nat.lt_of_lt_of_le hg2 hbd.size) (Z2.out.of_block (hbd.block g2 hg2))
              have hcall := IH.out g1 0 d1 g2 0 d2 (partT L p1) (partT M p2) (by omega) (by omega) (by omega) hd1 hd2 w3 hr1 hr2 (by omega)
              have HCALL := Lib.hid hcall
              clear hbd hr1 hr2 hcall
              go_wp2_with fail
              refine HCALL.out.mono ?_
              rintro e w4 ⟨bo, rfl, q4⟩
              dsimp only
              have HB4 := Lib.hid (HB3.out.trans (q4.mono HB3.out.size))
              have HA4 := Lib.hid (HA3.out.below q4)
              have HC4 := Lib.hid (HC3.out.below q4)
              clear q4
              cases bo with
              | false =>
                go_wp2_with fail
                go_ret
                exact ⟨false, rfl, HB4.out⟩
              | true =>
                go_wp2_with fail
                exact ⟨⟨k + 1, by simp, by omega, HA4.out, HC4.out, HB4.out⟩, by simp [intOf]; omega⟩
            · obtain rfl : k = n1 := by omega
              go_wp2_with fail
              go_ret
              exact ⟨true, rfl, HB.out⟩
end Shw
end Go.Proofs.YthamcklkmchkiaaDoor
