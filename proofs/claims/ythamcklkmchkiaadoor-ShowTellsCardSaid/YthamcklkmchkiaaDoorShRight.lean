/-
  DERIVED. LAYER 19 (value), the reference's, walked: is it one tree; what is right (what a yes tells).
-/
import Derived.Test.YthamcklkmchkiaaDoorShUses
namespace Go.Proofs.YthamcklkmchkiaaDoor
open Go.RowKit
namespace Shw
open Gl Glw Sh

/-- All types of a row of nodes lie in memory. -/
def TysIn (w : World) (L : List VN) : Prop := ∀ n ∈ L, TyIn w n.tA n.tn n.tc ∧ TyIn w n.uA n.un n.uc
theorem TysIn.since {w w' : World} {L : List VN} (h : TysIn w L) (hb : Below w.heap.size w w') : TysIn w' L := fun n hn => ⟨(h n hn).1.since hb, (h n hn).2.since hb⟩
/-- The numbers and the texts of a row of nodes are such as they can be. -/
def Fit (n : VN) : Prop := n.nm.size ≤ 9223372036854775807 ∧ n.lab.size ≤ 9223372036854775807

def TreePost (L : List VN) (w : World) (e : Ending) (w' : World) : Prop := ∃ bo : Bool, e = .returned (.bool bo) ∧ (bo = true → TreeI L) ∧ Below w.heap.size w w'
theorem tree_false {L : List VN} {w w' : World} (h : Below w.heap.size w w') : TreePost L w (.returned (.bool false)) w' := ⟨false, rfl, fun h => by simp at h, h⟩
theorem tree_true {L : List VN} {w w' : World} (hu : TreeI L) (h : Below w.heap.size w w') : TreePost L w (.returned (.bool true)) w' := ⟨true, rfl, fun _ => hu, h⟩
theorem kidsV_mem {L l : List VN} (h : l ∈ kidsV L) : l.length < L.length ∧ l ≠ [] ∧ ∀ x ∈ l, x ∈ L := by
  cases L with
  | nil => simp [kidsV] at h
  | cons n r =>
    rw [kidsV] at h
    have := kids_len _ _ _ h
    refine ⟨by rw [List.length_cons]; omega, this.2, fun x hx => ?_⟩
    obtain ⟨rest, hr⟩ := kidsGo_split (manyV n).toNat r
    rw [hr]
    exact List.mem_cons_of_mem _ (List.mem_append_left _ (List.mem_flatten.2 ⟨l, h, hx⟩))

theorem kidsGo_few : ∀ (c : Nat) (r : List VN), (kidsGo c r).length ≤ r.length
  | 0, r => by rw [kidsGo]; exact Nat.zero_le _
  | c + 1, [] => by rw [kidsGo]; exact Nat.le_refl _
  | c + 1, n :: r => by
    have h := kidsGo_few c ((n :: r).drop (endV (n :: r)))
    have hp := endGo_pos n r 1
    rw [kidsGo, List.length_cons]
    rw [List.length_drop] at h
    unfold endV at h
    rw [List.length_cons] at h ⊢
    unfold endV
    omega
theorem kidsV_few (L : List VN) : (kidsV L).length ≤ L.length := by
  cases L with
  | nil => rw [kidsV]; exact Nat.le_refl _
  | cons n r =>
    rw [kidsV, List.length_cons]
    have := kidsGo_few (manyV n).toNat r
    omega

set_option maxHeartbeats 8000000 in
set_option maxRecDepth 100000 in
theorem tree19 : ∀ (N : Nat) (b off cap : Nat) (L : List VN) (deep : Nat), L.length ≤ N → 0 < L.length → L.length ≤ cap → N ≤ 1000000 → deep + 2 * L.length ≤ 4000000 → ∀ w : World, RdV w b off L → TysIn w L → (∀ n ∈ L, Fit n) →
    Calls Tryd.prog 30 #[.slice (some ⟨b, off, none⟩) L.length cap, .int .i64 deep] w (TreePost L w) := by
  intro N
  induction N with
  | zero => intro b off cap L deep h h1; omega
  | succ N ih =>
    intro b off cap L deep hN hne hcap hNN hdp w hR hT hF
    have IH := Lib.hid ih
    clear ih
    obtain ⟨n, hn, a0, a1, a2, a3, a4, a5, a6⟩ := hR.at_ hne
    simp only [Nat.zero_mul, Nat.add_zero] at a0 a1 a2 a3 a4 a5 a6
    have hnL : n ∈ L := List.mem_of_getElem? hn
    have hus := fun w (hT : TysIn w L) => uses19 n w (hF n hnL).1 (hT n hnL).1 (hT n hnL).2
    have hend := fun w hR => End19 b off cap 0 L (Nat.zero_le _) w hR (by omega)
    rw [List.drop_zero, Nat.zero_add] at hend
    have hkids := fun w hR => Kids19 b off cap L hne hcap w hR (by omega)
    have hmy := fun w => many19 n w
    have HUS := Lib.hid hus
    have HEN := Lib.hid hend
    have HKI := Lib.hid hkids
    have HMY := Lib.hid hmy
    have HR := Lib.hid hR
    have HT := Lib.hid hT
    have HF := Lib.hid hF
    have HN := Lib.hid hn
    have hp0 : (0 : Int) < L.length := by omega
    have ql : ((L.length : Int) == 0) = false := by rw [beq_eq_false_iff_ne]; omega
    clear hus hend hkids hmy hR hT hF hn hnL
    by_cases hd : 100 < deep
    · have qd : decide ((100 : Int) < deep) = true := by simp; omega
      clear hd
      go_enter Tryd.func30, Tryd.ntmps30
      go_wp2_with fail
      go_ret
      exact tree_false (Below.refl _ _)
    · have qd : decide ((100 : Int) < deep) = false := by simp; omega
      have hdd : deep ≤ 100 := by omega
      clear hd
      go_enter Tryd.func30, Tryd.ntmps30
      go_wp2_with fail
      refine (HUS.out _ HT.out).mono ?_
      rintro e w1 ⟨bo, rfl, hu, q1⟩
      dsimp only
      have HB1 := Lib.hid q1
      have HU := Lib.hid hu
      have HR1 := Lib.hid (HR.out.since HR.out.1 q1)
      clear q1 hu
      cases bo with
      | false =>
        go_wp2_with fail
        go_ret
        exact tree_false HB1.out
      | true =>
        have HU1 := Lib.hid (HU.out (by simp))
        clear a0 a1 a2 a3 a4 a5 a6
        go_wp2_with fail
        refine (HEN.out _ HR1.out).mono ?_
        rintro e w2 ⟨rfl, q2⟩
        dsimp only
        have HB2 := Lib.hid (HB1.out.trans (q2.mono HB1.out.size))
        have HR2 := Lib.hid (HR.out.since HR.out.1 HB2.out)
        clear q2
        by_cases he : endV L = L.length
        · have qe : ((endV L : Int) != L.length) = false := by rw [bne_eq_false_iff_eq]; omega
          have HE := Lib.hid he
          clear he
          go_wp2_with fail
          refine (HKI.out _ HR2.out).mono ?_
          rintro e w3 ⟨v, rfl, hrows, q3⟩
          dsimp only
          have HB3 := Lib.hid (HB2.out.trans (q3.mono HB2.out.size))
          have HR3 := Lib.hid (HR.out.since HR.out.1 HB3.out)
          have hform : ∃ A c, v = .slice A ((kidsV L).map vnsC).length c := by obtain ⟨_, h, _⟩ := hrows; exact own_form h
          obtain ⟨A, c, hv⟩ := hform
          have hml : ((kidsV L).map vnsC).length = (kidsV L).length := List.length_map _
          rw [hml] at hv
          rw [hv] at hrows ⊢
          obtain ⟨K, hK⟩ : ∃ K, (kidsV L).length = K := ⟨_, rfl⟩
          rw [hK] at hrows hml ⊢
          have hKb : K ≤ 1000000 := by
            have := kidsV_few L
            omega
          have HRW := Lib.hid hrows
          have HK := Lib.hid hK
          have HML := Lib.hid hml
          clear q3 hrows hv hK hml
          obtain ⟨n', hn', b0, b1, b2, b3, b4, b5, b6⟩ := HR3.out.at_ hne
          have hnn : n' = n := by
            have := HN.out
            rw [hn'] at this
            exact Option.some.inj this
          subst hnn
          clear hn'
          simp only [Nat.zero_mul, Nat.add_zero] at b0 b1 b2 b3 b4 b5 b6
          go_wp2_with fail
          refine (HMY.out _).mono ?_
          rintro e w4 ⟨rfl, q4⟩
          dsimp only
          have HB4 := Lib.hid (HB3.out.trans (q4.mono HB3.out.size))
          have HRW4 := Lib.hid (HRW.out.below q4)
          clear q4 b0 b1 b2 b3 b4 b5 b6
          by_cases hkm : (K : Int) = manyV n'
          · have qk : ((K : Int) != manyV n') = false := by rw [bne_eq_false_iff_eq]; exact hkm
            have HKM := Lib.hid hkm
            clear hkm
            go_wp2_with fail
            go_loopw [6] (fun i wr => ∃ k : Nat, i = .int .i64 k ∧ k ≤ K ∧ RowsOf wr w2.heap.size 29 38 7 (.slice A K c) ((kidsV L).map vnsC) ∧ (∀ j l, j < k → (kidsV L)[j]? = some l → TreeI l ∧ ∀ x s, l = x :: s → kidP n' x) ∧ Below w.heap.size w wr) (fun i _ => K - (intOf i).toNat)
            case atStart => exact ⟨0, rfl, Nat.zero_le _, HRW4.out, fun j l h => by omega, HB4.out⟩
            case round =>
              obtain ⟨k, rfl, hk, hrows, hall, hB⟩ := hrel
              have HRr := Lib.hid hrows
              have HAL := Lib.hid hall
              have HBr := Lib.hid hB
              by_cases hlt : k < K
              · have hkl : k < (kidsV L).length := by rw [HK.out]; exact hlt
                obtain ⟨l, hl⟩ : ∃ l, (kidsV L)[k]? = some l := ⟨_, List.getElem?_eq_getElem hkl⟩
                have hmem := kidsV_mem (List.mem_of_getElem? hl)
                obtain ⟨bA, cA, g, m, c', e1, _, hbA, hbA2, x1, hm1, hmc, hgb, hg, hc1⟩ := hrows.row (i := k) (l := vnsC l) (by rw [List.getElem?_map, hl]; rfl)
                rw [HML.out] at e1
                simp only [Value.slice.injEq, true_and] at e1
                obtain ⟨rfl, rfl⟩ := e1
                have hml : m = l.length := by rw [vnsC_len] at hm1; omega
                subst hml
                obtain ⟨x, r, rfl⟩ : ∃ x r, l = x :: r := by
                  cases l with
                  | nil => exact absurd rfl hmem.2.1
                  | cons x r => exact ⟨x, r, rfl⟩
                have hrd : RdV wr g 0 (x :: r) := RdV.of_cells hg hc1
                obtain ⟨c0, d1, d2, d3, d4, d5, d6⟩ := hrd.2 0 x rfl
                simp only [Nat.zero_mul, Nat.add_zero, Nat.zero_add] at c0 d1 d2 d3 d4 d5 d6
                obtain ⟨n2, hn2, b0, _, _, _, _, _, _⟩ := (HR.out.since HR.out.1 hB).at_ hne
                have hnn : n2 = n' := by
                  have := HN.out
                  rw [hn2] at this
                  exact Option.some.inj this
                subst hnn
                simp only [Nat.zero_mul, Nat.add_zero] at b0
                have hk0 : (0 : Int) ≤ k := by omega
                have hlt' : (k : Int) < K := by omega
                have hlp : (0 : Int) < (x :: r).length := by simp only [List.length_cons]; omega
                have hbw : b < wr.heap.size := Nat.lt_of_lt_of_le HR.out.1 hB.size
                have HL := Lib.hid hl
                have HRD := Lib.hid hrd
                have HMEM := Lib.hid hmem
                clear hn2 hl hrd hmem hc1 hm1 hrows hall hB hkl
                have hlw := fun w => refIsWord x.lab w (HF.out x (HMEM.out.2.2 x (by simp))).2
                have HLW := Lib.hid hlw
                have hbx : Below wr.heap.size wr (wr.alloc (.cells #[.int .i64 x.k, .string x.lab, .string x.nm, .int .i64 x.num, .int .i64 x.many, .slice x.tA x.tn x.tc, .slice x.uA x.un x.uc] 38)) := (Below.refl _ _).alloc (Nat.le_refl _) _
                have HBX := Lib.hid hbx
                clear hlw hbx
                by_cases h4 : n2.k = 4
                · have q4 : (n2.k == 4) = true := by rw [beq_iff_eq]; exact h4
                  have q7 : (n2.k == 7) = false := by rw [beq_eq_false_iff_ne, h4]; decide
                  have HK4 := Lib.hid h4
                  clear h4
                  by_cases hw : wordL x.lab.data.toList = true
                  · have HW := Lib.hid (show ∀ w, Calls Tryd.prog 49 #[.string x.lab] w fun e w' => e = .returned (.bool true) ∧ w = w' from fun w => by have := HLW.out w; rw [hw] at this; exact this)
                    have HKP := Lib.hid (show kidP n2 x from ⟨fun _ => hw, fun h => absurd HK4.out h, fun h => by have := HK4.out; omega⟩)
                    clear hw HLW
                    by_cases hkz : k = 0
                    · have qk : decide (0 < k) = false := by simp; omega
                      have HKZ := Lib.hid hkz
                      clear hkz
                      go_wp2_with fail
                      go_quiet ((go_at_call 49; exact Calls.quiet_of_same ((HW.out _).mono fun _ _ ⟨h1, h2⟩ => ⟨h1, h2.symm⟩)))
                      have HBQ := Lib.hid (show Below wr.heap.size wr ((wr.alloc (.cells #[.int .i64 x.k, .string x.lab, .string x.nm, .int .i64 x.num, .int .i64 x.many, .slice x.tA x.tn x.tc, .slice x.uA x.un x.uc] 38)).drewN nq) from ⟨HBX.out.os, HBX.out.tape, HBX.out.output, HBX.out.size, HBX.out.block⟩)
                      go_wp2_with fail
                      have hbw : Below wr.heap.size wr ((wr.alloc (.cells #[.int .i64 x.k, .string x.lab, .string x.nm, .int .i64 x.num, .int .i64 x.many, .slice x.tA x.tn x.tc, .slice x.uA x.un x.uc] 38)).drewN nq) := HBQ.out
                      have hbW := HBr.out.trans (hbw.mono HBr.out.size)
                      have hcall := IH.out g 0 c' (x :: r) (deep + 1) (by have := HMEM.out.1; omega) (by simp only [List.length_cons]; omega) hmc (by omega) (by have := HMEM.out.1; omega) _ (HRD.out.since HRD.out.1 hbw) (fun y hy => (HT.out.since hbW) y (HMEM.out.2.2 y hy)) (fun y hy => HF.out y (HMEM.out.2.2 y hy))
                      rw [List.length_cons] at hcall
                      rw [show ((deep + 1 : Nat) : Int) = (deep : Int) + 1 from by omega] at hcall
                      have HBW := Lib.hid hbW
                      have HRW := Lib.hid (HRr.out.below hbw)
                      have HCALL := Lib.hid hcall
                      clear hbw hbW hcall
                      refine HCALL.out.mono ?_
                      rintro e w6 ⟨bo, rfl, htr, q6⟩
                      dsimp only
                      have HB6 := Lib.hid (HBW.out.trans (q6.mono HBW.out.size))
                      have HR6 := Lib.hid (HRW.out.below q6)
                      have HTR := Lib.hid htr
                      clear q6 htr
                      cases bo with
                      | false =>
                        go_wp2_with fail
                        go_ret
                        exact tree_false HB6.out
                      | true =>
                        go_wp2_with fail
                        refine ⟨⟨k + 1, by simp, by omega, HR6.out, fun j l hj hjl => ?_, HB6.out⟩, by simp [intOf]; omega⟩
                        by_cases e : j = k
                        · subst e
                          rw [HL.out] at hjl
                          obtain rfl := Option.some.inj hjl
                          refine ⟨HTR.out (by simp), fun x' s' hx' => ?_⟩
                          injection hx' with hx' _
                          subst hx'
                          exact HKP.out
                        · exact HAL.out j l (by omega) hjl
                    · have qk2 : decide (0 < k) = true := by simp; omega
                      have hk00 : 0 < k := by omega
                      obtain ⟨lp, hlp1⟩ : ∃ lp, (kidsV L)[k - 1]? = some lp := ⟨_, List.getElem?_eq_getElem (by rw [HK.out]; omega)⟩
                      have hmp := kidsV_mem (List.mem_of_getElem? hlp1)
                      obtain ⟨bA', cA', g', m', c'', e1', _, _, _, x1', hm1', _, _, hg', hc1'⟩ := (HRr.out.below HBX.out).row (i := k - 1) (l := vnsC lp) (by rw [List.getElem?_map, hlp1]; rfl)
                      rw [HML.out] at e1'
                      simp only [Value.slice.injEq, Option.some.injEq, Addr.mk.injEq, and_true, true_and] at e1'
                      obtain ⟨rfl, rfl⟩ := e1'
                      have hml' : m' = lp.length := by rw [vnsC_len] at hm1'; omega
                      subst hml'
                      obtain ⟨xp, rp, rfl⟩ : ∃ x r, lp = x :: r := by
                        cases lp with
                        | nil => exact absurd rfl hmp.2.1
                        | cons x r => exact ⟨x, r, rfl⟩
                      have hrp : RdV (wr.alloc (.cells #[.int .i64 x.k, .string x.lab, .string x.nm, .int .i64 x.num, .int .i64 x.many, .slice x.tA x.tn x.tc, .slice x.uA x.un x.uc] 38)) g' 0 (xp :: rp) := RdV.of_cells hg' hc1'
                      obtain ⟨_, dp, _⟩ := hrp.2 0 xp rfl
                      simp only [Nat.zero_mul, Nat.add_zero, Nat.zero_add] at dp
                      have hbc : (wr.alloc (.cells #[.int .i64 x.k, .string x.lab, .string x.nm, .int .i64 x.num, .int .i64 x.many, .slice x.tA x.tn x.tc, .slice x.uA x.un x.uc] 38)).cell? ⟨wr.heap.size, 1, none⟩ = some (.string x.lab) := by rw [World.cell?_alloc_at _ _ _ _ rfl]; rfl
                      have hq1 : (1 : Int) ≤ k := by omega
                      have hq2 : (0 : Int) ≤ (k : Int) - 1 := by omega
                      have hq3 : (k : Int) - 1 < K := by omega
                      have hq4 : ((k : Int) - 1).toNat = k - 1 := by omega
                      have hq5 : IntKind.i64.wrap ((k : Int) - 1) = (k : Int) - 1 := IntWalk.i64_in _ ⟨by omega, by omega⟩
                      have hq6 : (0 : Int) < (xp :: rp).length := by simp only [List.length_cons]; omega
                      clear hlp1 hmp hrp hm1' hc1' hkz
                      obtain ⟨bl, hbl⟩ : ∃ bl, (!Op.bytesLess xp.lab.toList x.lab.toList) = bl := ⟨_, rfl⟩
                      cases bl
                      · go_wp2_with fail
                        go_quiet ((go_at_call 49; exact Calls.quiet_of_same ((HW.out _).mono fun _ _ ⟨h1, h2⟩ => ⟨h1, h2.symm⟩)))
                        have HBQ := Lib.hid (show Below wr.heap.size wr ((wr.alloc (.cells #[.int .i64 x.k, .string x.lab, .string x.nm, .int .i64 x.num, .int .i64 x.many, .slice x.tA x.tn x.tc, .slice x.uA x.un x.uc] 38)).drewN nq) from ⟨HBX.out.os, HBX.out.tape, HBX.out.output, HBX.out.size, HBX.out.block⟩)
                        clear hq2 hq3 hq4 hq5
                        go_wp2_with fail
                        have hbw : Below wr.heap.size wr ((wr.alloc (.cells #[.int .i64 x.k, .string x.lab, .string x.nm, .int .i64 x.num, .int .i64 x.many, .slice x.tA x.tn x.tc, .slice x.uA x.un x.uc] 38)).drewN nq) := HBQ.out
                        have hbW := HBr.out.trans (hbw.mono HBr.out.size)
                        have hcall := IH.out g 0 c' (x :: r) (deep + 1) (by have := HMEM.out.1; omega) (by simp only [List.length_cons]; omega) hmc (by omega) (by have := HMEM.out.1; omega) _ (HRD.out.since HRD.out.1 hbw) (fun y hy => (HT.out.since hbW) y (HMEM.out.2.2 y hy)) (fun y hy => HF.out y (HMEM.out.2.2 y hy))
                        rw [List.length_cons] at hcall
                        rw [show ((deep + 1 : Nat) : Int) = (deep : Int) + 1 from by omega] at hcall
                        have HBW := Lib.hid hbW
                        have HRW := Lib.hid (HRr.out.below hbw)
                        have HCALL := Lib.hid hcall
                        clear hbw hbW hcall
                        refine HCALL.out.mono ?_
                        rintro e w6 ⟨bo, rfl, htr, q6⟩
                        dsimp only
                        have HB6 := Lib.hid (HBW.out.trans (q6.mono HBW.out.size))
                        have HR6 := Lib.hid (HRW.out.below q6)
                        have HTR := Lib.hid htr
                        clear q6 htr
                        cases bo with
                        | false =>
                          go_wp2_with fail
                          go_ret
                          exact tree_false HB6.out
                        | true =>
                          go_wp2_with fail
                          refine ⟨⟨k + 1, by simp, by omega, HR6.out, fun j l hj hjl => ?_, HB6.out⟩, by simp [intOf]; omega⟩
                          by_cases e : j = k
                          · subst e
                            rw [HL.out] at hjl
                            obtain rfl := Option.some.inj hjl
                            refine ⟨HTR.out (by simp), fun x' s' hx' => ?_⟩
                            injection hx' with hx' _
                            subst hx'
                            exact HKP.out
                          · exact HAL.out j l (by omega) hjl
                      · go_wp2_with fail
                        go_quiet ((go_at_call 49; exact Calls.quiet_of_same ((HW.out _).mono fun _ _ ⟨h1, h2⟩ => ⟨h1, h2.symm⟩)))
                        have HBQ := Lib.hid (show Below wr.heap.size wr ((wr.alloc (.cells #[.int .i64 x.k, .string x.lab, .string x.nm, .int .i64 x.num, .int .i64 x.many, .slice x.tA x.tn x.tc, .slice x.uA x.un x.uc] 38)).drewN nq) from ⟨HBX.out.os, HBX.out.tape, HBX.out.output, HBX.out.size, HBX.out.block⟩)
                        clear hq2 hq3 hq4 hq5
                        go_wp2_with fail
                        go_ret
                        exact tree_false (HBr.out.trans (HBQ.out.mono HBr.out.size))
                  · have hw' : wordL x.lab.data.toList = false := by simpa using hw
                    have HW := Lib.hid (show ∀ w, Calls Tryd.prog 49 #[.string x.lab] w fun e w' => e = .returned (.bool false) ∧ w = w' from fun w => by have := HLW.out w; rw [hw'] at this; exact this)
                    clear hw hw' HLW
                    go_wp2_with fail
                    go_quiet ((go_at_call 49; exact Calls.quiet_of_same ((HW.out _).mono fun _ _ ⟨h1, h2⟩ => ⟨h1, h2.symm⟩)))
                    have HBQ := Lib.hid (show Below wr.heap.size wr ((wr.alloc (.cells #[.int .i64 x.k, .string x.lab, .string x.nm, .int .i64 x.num, .int .i64 x.many, .slice x.tA x.tn x.tc, .slice x.uA x.un x.uc] 38)).drewN nq) from ⟨HBX.out.os, HBX.out.tape, HBX.out.output, HBX.out.size, HBX.out.block⟩)
                    go_wp2_with fail
                    go_ret
                    exact tree_false (HBr.out.trans (HBQ.out.mono HBr.out.size))
                · have q4 : (n2.k == 4) = false := by rw [beq_eq_false_iff_ne]; exact h4
                  have HK4 := Lib.hid h4
                  clear h4 HLW
                  by_cases he : x.lab.size = 0
                  · have qe : x.lab.toList.isEmpty = true := by rw [isEmpty_size]; exact decide_eq_true he
                    have HLE := Lib.hid he
                    clear he
                    by_cases h7 : n2.k = 7
                    · have q7 : (n2.k == 7) = true := by rw [beq_iff_eq]; exact h7
                      clear h7
                      by_cases h67 : x.k = 6 ∨ x.k = 7
                      · have HKP := Lib.hid (show kidP n2 x from ⟨fun h => absurd h HK4.out, fun _ => HLE.out, fun _ => h67⟩)
                        have h67' : x.k = 6 ∨ ¬ x.k = 6 ∧ x.k = 7 := by omega
                        clear h67
                        rcases h67' with h6 | ⟨h6, h7'⟩
                        · have q6 : (x.k != 6) = false := by rw [bne_eq_false_iff_eq]; exact h6
                          clear h6
                          go_wp2_with fail
                          have hbw : Below wr.heap.size wr (wr.alloc (.cells #[.int .i64 x.k, .string x.lab, .string x.nm, .int .i64 x.num, .int .i64 x.many, .slice x.tA x.tn x.tc, .slice x.uA x.un x.uc] 38)) := HBX.out
                          have hbW := HBr.out.trans (hbw.mono HBr.out.size)
                          have hcall := IH.out g 0 c' (x :: r) deep (by have := HMEM.out.1; omega) (by simp only [List.length_cons]; omega) hmc (by omega) (by have := HMEM.out.1; omega) _ (HRD.out.since HRD.out.1 hbw) (fun y hy => (HT.out.since hbW) y (HMEM.out.2.2 y hy)) (fun y hy => HF.out y (HMEM.out.2.2 y hy))
                          rw [List.length_cons] at hcall
                          have HBW := Lib.hid hbW
                          have HRW := Lib.hid (HRr.out.below hbw)
                          have HCALL := Lib.hid hcall
                          clear hbw hbW hcall
                          refine HCALL.out.mono ?_
                          rintro e w6 ⟨bo, rfl, htr, q6⟩
                          dsimp only
                          have HB6 := Lib.hid (HBW.out.trans (q6.mono HBW.out.size))
                          have HR6 := Lib.hid (HRW.out.below q6)
                          have HTR := Lib.hid htr
                          clear q6 htr
                          cases bo with
                          | false =>
                            go_wp2_with fail
                            go_ret
                            exact tree_false HB6.out
                          | true =>
                            go_wp2_with fail
                            refine ⟨⟨k + 1, by simp, by omega, HR6.out, fun j l hj hjl => ?_, HB6.out⟩, by simp [intOf]; omega⟩
                            by_cases e : j = k
                            · subst e
                              rw [HL.out] at hjl
                              obtain rfl := Option.some.inj hjl
                              refine ⟨HTR.out (by simp), fun x' s' hx' => ?_⟩
                              injection hx' with hx' _
                              subst hx'
                              exact HKP.out
                            · exact HAL.out j l (by omega) hjl
                        · have q6 : (x.k != 6) = true := by rw [bne_iff_ne]; exact h6
                          have q67 : (x.k != 7) = false := by rw [bne_eq_false_iff_eq]; exact h7'
                          clear h6 h7'
                          go_wp2_with fail
                          have hbw : Below wr.heap.size wr (wr.alloc (.cells #[.int .i64 x.k, .string x.lab, .string x.nm, .int .i64 x.num, .int .i64 x.many, .slice x.tA x.tn x.tc, .slice x.uA x.un x.uc] 38)) := HBX.out
                          have hbW := HBr.out.trans (hbw.mono HBr.out.size)
                          have hcall := IH.out g 0 c' (x :: r) deep (by have := HMEM.out.1; omega) (by simp only [List.length_cons]; omega) hmc (by omega) (by have := HMEM.out.1; omega) _ (HRD.out.since HRD.out.1 hbw) (fun y hy => (HT.out.since hbW) y (HMEM.out.2.2 y hy)) (fun y hy => HF.out y (HMEM.out.2.2 y hy))
                          rw [List.length_cons] at hcall
                          have HBW := Lib.hid hbW
                          have HRW := Lib.hid (HRr.out.below hbw)
                          have HCALL := Lib.hid hcall
                          clear hbw hbW hcall
                          refine HCALL.out.mono ?_
                          rintro e w6 ⟨bo, rfl, htr, q6⟩
                          dsimp only
                          have HB6 := Lib.hid (HBW.out.trans (q6.mono HBW.out.size))
                          have HR6 := Lib.hid (HRW.out.below q6)
                          have HTR := Lib.hid htr
                          clear q6 htr
                          cases bo with
                          | false =>
                            go_wp2_with fail
                            go_ret
                            exact tree_false HB6.out
                          | true =>
                            go_wp2_with fail
                            refine ⟨⟨k + 1, by simp, by omega, HR6.out, fun j l hj hjl => ?_, HB6.out⟩, by simp [intOf]; omega⟩
                            by_cases e : j = k
                            · subst e
                              rw [HL.out] at hjl
                              obtain rfl := Option.some.inj hjl
                              refine ⟨HTR.out (by simp), fun x' s' hx' => ?_⟩
                              injection hx' with hx' _
                              subst hx'
                              exact HKP.out
                            · exact HAL.out j l (by omega) hjl
                      · have q6 : (x.k != 6) = true := by rw [bne_iff_ne]; omega
                        have q67 : (x.k != 7) = true := by rw [bne_iff_ne]; omega
                        clear h67
                        go_wp2_with fail
                        go_ret
                        exact tree_false (HBr.out.trans (HBX.out.mono HBr.out.size))
                    · have q7 : (n2.k == 7) = false := by rw [beq_eq_false_iff_ne]; exact h7
                      have HKP := Lib.hid (show kidP n2 x from ⟨fun h => absurd h HK4.out, fun _ => HLE.out, fun h => absurd h h7⟩)
                      clear h7
                      go_wp2_with fail
                      have hbw : Below wr.heap.size wr (wr.alloc (.cells #[.int .i64 x.k, .string x.lab, .string x.nm, .int .i64 x.num, .int .i64 x.many, .slice x.tA x.tn x.tc, .slice x.uA x.un x.uc] 38)) := HBX.out
                      have hbW := HBr.out.trans (hbw.mono HBr.out.size)
                      have hcall := IH.out g 0 c' (x :: r) (deep + 1) (by have := HMEM.out.1; omega) (by simp only [List.length_cons]; omega) hmc (by omega) (by have := HMEM.out.1; omega) _ (HRD.out.since HRD.out.1 hbw) (fun y hy => (HT.out.since hbW) y (HMEM.out.2.2 y hy)) (fun y hy => HF.out y (HMEM.out.2.2 y hy))
                      rw [List.length_cons] at hcall
                      rw [show ((deep + 1 : Nat) : Int) = (deep : Int) + 1 from by omega] at hcall
                      have HBW := Lib.hid hbW
                      have HRW := Lib.hid (HRr.out.below hbw)
                      have HCALL := Lib.hid hcall
                      clear hbw hbW hcall
                      refine HCALL.out.mono ?_
                      rintro e w6 ⟨bo, rfl, htr, q6⟩
                      dsimp only
                      have HB6 := Lib.hid (HBW.out.trans (q6.mono HBW.out.size))
                      have HR6 := Lib.hid (HRW.out.below q6)
                      have HTR := Lib.hid htr
                      clear q6 htr
                      cases bo with
                      | false =>
                        go_wp2_with fail
                        go_ret
                        exact tree_false HB6.out
                      | true =>
                        go_wp2_with fail
                        refine ⟨⟨k + 1, by simp, by omega, HR6.out, fun j l hj hjl => ?_, HB6.out⟩, by simp [intOf]; omega⟩
                        by_cases e : j = k
                        · subst e
                          rw [HL.out] at hjl
                          obtain rfl := Option.some.inj hjl
                          refine ⟨HTR.out (by simp), fun x' s' hx' => ?_⟩
                          injection hx' with hx' _
                          subst hx'
                          exact HKP.out
                        · exact HAL.out j l (by omega) hjl
                  · have qe : x.lab.toList.isEmpty = false := by rw [isEmpty_size]; exact decide_eq_false he
                    clear he
                    go_wp2_with fail
                    go_ret
                    exact tree_false (HBr.out.trans (HBX.out.mono HBr.out.size))
              · obtain rfl : k = K := by omega
                go_wp2_with fail
                go_ret
                refine tree_true ?_ HBr.out
                have hnL := HN.out
                cases L with
                | nil => simp at hnL
                | cons n3 r3 =>
                  obtain rfl : n3 = n' := by simpa using hnL
                  have hm := (HU1.out).many
                  refine TreeI.mk n3 r3 HU1.out HE.out ?_ (fun l hl x s hx => ?_) (fun l hl => ?_)
                  · have h1 := HK.out
                    have h2 := HKM.out
                    omega
                  · obtain ⟨j, hj, rfl⟩ := List.getElem_of_mem hl
                    exact (HAL.out j _ (by rw [← HK.out]; exact hj) (List.getElem?_eq_getElem hj)).2 x s hx
                  · obtain ⟨j, hj, rfl⟩ := List.getElem_of_mem hl
                    exact (HAL.out j _ (by rw [← HK.out]; exact hj) (List.getElem?_eq_getElem hj)).1
          · have qk : ((K : Int) != manyV n') = true := by rw [bne_iff_ne]; exact hkm
            clear hkm
            go_wp2_with fail
            go_ret
            exact tree_false HB4.out
        · have qe : ((endV L : Int) != L.length) = true := by rw [bne_iff_ne]; omega
          clear he
          go_wp2_with fail
          go_ret
          exact tree_false HB2.out

def RightV (L : List VN) : Prop := TreeI L ∧ ∀ n, L[0]? = some n → n.lab.size = 0
def Right19Post (L : List VN) (w : World) (e : Ending) (w' : World) : Prop := ∃ bo : Bool, e = .returned (.bool bo) ∧ (bo = true → RightV L) ∧ Below w.heap.size w w'
theorem right19_false {L : List VN} {w w' : World} (h : Below w.heap.size w w') : Right19Post L w (.returned (.bool false)) w' := ⟨false, rfl, fun h => by simp at h, h⟩

set_option maxHeartbeats 1000000 in
set_option maxRecDepth 100000 in
theorem Right19_none (A : Option Addr) (cap : Nat) (w : World) : Calls Tryd.prog 15 #[.slice A 0 cap] w fun e w' => e = .returned (.bool false) ∧ Below w.heap.size w w' := by
  go_enter Tryd.func15, Tryd.ntmps15
  go_wp2_with fail
  go_ret
  exact ⟨rfl, Below.refl _ _⟩

set_option maxHeartbeats 2000000 in
set_option maxRecDepth 100000 in
theorem Right19 (b off cap : Nat) (L : List VN) (hne : 0 < L.length) (hcap : L.length ≤ cap) (hL : L.length ≤ 1000) (w : World) (hR : RdV w b off L) (hT : TysIn w L) (hF : ∀ n ∈ L, Fit n) :
    Calls Tryd.prog 15 #[.slice (some ⟨b, off, none⟩) L.length cap] w (Right19Post L w) := by
  obtain ⟨n, hn, a0, a1, a2, a3, a4, a5, a6⟩ := hR.at_ hne
  simp only [Nat.zero_mul, Nat.add_zero] at a1
  have htr := tree19 L.length b off cap L 1 (Nat.le_refl _) hne hcap (by omega) (by omega) w hR hT hF
  have HTR := Lib.hid htr
  have HN := Lib.hid hn
  have hp0 : (0 : Int) < L.length := by omega
  have q1 : decide (0 < L.length) = true := by simp; omega
  have q2 : decide ((L.length : Int) ≤ 10000) = true := by simp; omega
  clear htr hR hT hF hn a0 a2 a3 a4 a5 a6
  by_cases he : n.lab.size = 0
  · have qe : n.lab.toList.isEmpty = true := by rw [isEmpty_size]; exact decide_eq_true he
    have HE := Lib.hid he
    clear he
    go_enter Tryd.func15, Tryd.ntmps15
    go_wp2_with fail
    refine HTR.out.mono ?_
    rintro e w1 ⟨bo, rfl, ht, q⟩
    dsimp only
    have HB := Lib.hid q
    have HT := Lib.hid ht
    clear q ht
    go_wp2_with fail
    go_ret
    refine ⟨bo, rfl, fun h => ⟨HT.out h, fun m hm => ?_⟩, HB.out⟩
    rw [HN.out] at hm
    rw [← Option.some.inj hm]
    exact HE.out
  · have qe : n.lab.toList.isEmpty = false := by rw [isEmpty_size]; exact decide_eq_false he
    clear he
    go_enter Tryd.func15, Tryd.ntmps15
    go_wp2_with fail
    go_ret
    exact right19_false (Below.refl _ _)
end Shw
end Go.Proofs.YthamcklkmchkiaaDoor
