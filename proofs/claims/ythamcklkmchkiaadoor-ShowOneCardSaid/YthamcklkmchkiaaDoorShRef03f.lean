/-
  DERIVED. LAYER 3 (ty), the reference's, walked: is it a type (what a yes tells); are types the same (that it answers).
-/
import Derived.Test.YthamcklkmchkiaaDoorShRef03e
namespace Go.Proofs.YthamcklkmchkiaaDoor
open Go.RowKit
namespace Shw
open Gl Glw Sh

theorem numOk_many {n : TN} (h : NumOk n) : 0 ≤ manyT n ∧ manyT n ≤ 50 := by
  unfold manyT
  rcases h with ⟨h, _⟩ | ⟨h, _⟩ | ⟨h, h1, h2⟩ | ⟨h, h1, h2⟩
  · rw [if_neg (by omega), if_neg (by omega), if_neg (by omega)]; omega
  · split
    · omega
    · rw [if_neg (by omega), if_neg (by omega)]; omega
  · rw [if_neg (by omega), if_pos h]; omega
  · rw [if_neg (by omega), if_neg (by omega), if_pos h]; omega

/-- What a right type is, as far as it is wanted. -/
def RightT (L : List TN) : Prop := (∀ n ∈ L, NumOk n) ∧ endT L = L.length ∧ ∀ i, i < L.length → LabP L i
def RightPost (L : List TN) (w : World) (e : Ending) (w' : World) : Prop := ∃ bo : Bool, e = .returned (.bool bo) ∧ (bo = true → RightT L) ∧ Below w.heap.size w w'
theorem right_false {L : List TN} {w w' : World} (h : Below w.heap.size w w') : RightPost L w (.returned (.bool false)) w' := ⟨false, rfl, fun h => by simp at h, h⟩
theorem right_true {L : List TN} {w w' : World} (hl : RightT L) (h : Below w.heap.size w w') : RightPost L w (.returned (.bool true)) w' := ⟨true, rfl, fun _ => hl, h⟩

set_option maxHeartbeats 1000000 in
set_option maxRecDepth 100000 in
theorem Right03_none (A : Option Addr) (cap : Nat) (w : World) : Calls Tryd.prog 34 #[.slice A 0 cap] w fun e w' => e = .returned (.bool false) ∧ Below w.heap.size w w' := by
  go_enter Tryd.func34, Tryd.ntmps34
  go_wp2_with fail
  go_ret
  exact ⟨rfl, Below.refl _ _⟩

set_option maxHeartbeats 4000000 in
set_option maxRecDepth 100000 in
theorem Right03 (b off cap : Nat) (L : List TN) (hne : 0 < L.length) (w : World) (hRV : RdT w b off L) (hL : L.length ≤ 1000000) (hS : ∀ n ∈ L, n.nm.size ≤ 9223372036854775807) :
    Calls Tryd.prog 34 #[.slice (some ⟨b, off, none⟩) L.length cap] w (RightPost L w) := by
  obtain ⟨n, hn, b0, b1, b2⟩ := hRV.at_ hne
  simp only [Nat.zero_mul, Nat.add_zero] at b0 b1 b2
  have hE := fun w hR => End03 b off cap 0 L hne w hR hL
  rw [List.drop_zero, Nat.zero_add] at hE
  have hnum := fun n w => numbered03 n w
  have hlab := fun i w hi hR => labelled03 b off cap i L hi w hR hL hS
  have hsh := fun w hR hN => shallow03 b off cap L w hR hL hN
  have HRV := Lib.hid hRV
  have HE := Lib.hid hE
  have HNUM := Lib.hid hnum
  have HLB := Lib.hid hlab
  have HSH := Lib.hid hsh
  have hne' : (0 : Int) < L.length := by omega
  have ql : ((L.length : Int) == 0) = false := by rw [beq_eq_false_iff_ne]; omega
  clear hRV hE hnum hlab hsh hn hS
  by_cases hbig : 10000 < L.length
  · have qb : decide ((10000 : Int) < L.length) = true := by simp; omega
    clear hbig
    go_enter Tryd.func34, Tryd.ntmps34
    go_wp2_with fail
    go_ret
    exact right_false (Below.refl _ _)
  · have qb : decide ((10000 : Int) < L.length) = false := by simp; omega
    clear hbig
    by_cases he : n.nm.toList.isEmpty = true
    · by_cases h9 : n.k = 9
      · have q9 : (n.k == 9) = true := by rw [beq_iff_eq]; exact h9
        clear h9
        go_enter Tryd.func34, Tryd.ntmps34
        go_wp2_with fail
        go_ret
        exact right_false (Below.refl _ _)
      · have q9 : (n.k == 9) = false := by rw [beq_eq_false_iff_ne]; exact h9
        clear h9
        go_enter Tryd.func34, Tryd.ntmps34
        go_wp2_with fail
        clear b0 b1 b2
        go_loopw [3] (fun i wr => ∃ k : Nat, i = .int .i64 k ∧ k ≤ L.length ∧ (∀ j n, j < k → L[j]? = some n → NumOk n) ∧ Below w.heap.size w wr) (fun i _ => L.length - (intOf i).toNat)
        case atStart => exact ⟨0, rfl, Nat.zero_le _, fun j n h => by omega, Below.refl _ _⟩
        case round =>
          obtain ⟨k, rfl, hk, hall, hB⟩ := hrel
          have HALL := Lib.hid hall
          have HB := Lib.hid hB
          clear hall hB
          by_cases hlt : k < L.length
          · obtain ⟨x, hx, a0, a1, a2⟩ := (HRV.out.since HRV.out.1 HB.out).at_ hlt
            have hk0 : (0 : Int) ≤ k := by omega
            have hlt' : (k : Int) < L.length := by omega
            have HX := Lib.hid hx
            clear hx
            go_wp2_with fail
            refine (HNUM.out x _).mono ?_
            rintro e w1 ⟨bo, rfl, hbo, q1⟩
            dsimp only
            have HB1 := Lib.hid (HB.out.trans (q1.mono HB.out.size))
            have HBO := Lib.hid hbo
            clear q1 hbo
            cases bo with
            | false =>
              go_wp2_with fail
              go_ret
              exact right_false HB1.out
            | true =>
              go_wp2_with fail
              refine ⟨⟨k + 1, by simp, by omega, fun j y hj hy => ?_, HB1.out⟩, by simp [intOf]; omega⟩
              by_cases e : j = k
              · subst e
                rw [HX.out] at hy
                obtain rfl := Option.some.inj hy
                exact HBO.out rfl
              · exact HALL.out j y (by omega) hy
          · obtain rfl : k = L.length := by omega
            have hall : ∀ n ∈ L, NumOk n := fun n hn => by
              obtain ⟨i, hi, rfl⟩ := List.getElem_of_mem hn
              exact HALL.out i _ hi (List.getElem?_eq_getElem hi)
            have HA := Lib.hid hall
            clear hall
            go_wp2_with fail
            refine (HE.out _ (HRV.out.since HRV.out.1 HB.out)).mono ?_
            rintro e w1 ⟨rfl, q1⟩
            dsimp only
            have HB1 := Lib.hid (HB.out.trans (q1.mono HB.out.size))
            clear q1
            by_cases hend : endT L = L.length
            · have qe : ((endT L : Int) != L.length) = false := by rw [bne_eq_false_iff_eq]; omega
              have HEND := Lib.hid hend
              clear hend
              go_wp2_with fail
              refine (HSH.out _ (HRV.out.since HRV.out.1 HB1.out) (fun n hn => numOk_many (HA.out n hn))).mono ?_
              rintro e w2 ⟨bo, rfl, q2⟩
              dsimp only
              have HB2 := Lib.hid (HB1.out.trans (q2.mono HB1.out.size))
              clear q2
              cases bo with
              | false =>
                go_wp2_with fail
                go_ret
                exact right_false HB2.out
              | true =>
                go_wp2_with fail
                go_loopw [4] (fun i wr => ∃ k : Nat, i = .int .i64 k ∧ k ≤ L.length ∧ (∀ j, j < k → LabP L j) ∧ Below w.heap.size w wr) (fun i _ => L.length - (intOf i).toNat)
                case atStart => exact ⟨0, rfl, Nat.zero_le _, fun j h => by omega, HB2.out⟩
                case round =>
                  obtain ⟨k, rfl, hk, hall, hB⟩ := hrel
                  have HALB := Lib.hid hall
                  have HBr := Lib.hid hB
                  clear hall hB
                  by_cases hlt : k < L.length
                  · have hk0 : (0 : Int) ≤ k := by omega
                    have hlt' : (k : Int) < L.length := by omega
                    go_wp2_with fail
                    refine (HLB.out k _ hlt (HRV.out.since HRV.out.1 HBr.out)).mono ?_
                    rintro e w3 ⟨bo, rfl, hbo, q3⟩
                    dsimp only
                    have HB3 := Lib.hid (HBr.out.trans (q3.mono HBr.out.size))
                    have HBO := Lib.hid hbo
                    clear q3 hbo
                    cases bo with
                    | false =>
                      go_wp2_with fail
                      go_ret
                      exact right_false HB3.out
                    | true =>
                      go_wp2_with fail
                      refine ⟨⟨k + 1, by simp, by omega, fun j hj => ?_, HB3.out⟩, by simp [intOf]; omega⟩
                      by_cases e : j = k
                      · subst e; exact HBO.out rfl
                      · exact HALB.out j (by omega)
                  · obtain rfl : k = L.length := by omega
                    go_wp2_with fail
                    go_ret
                    exact right_true ⟨HA.out, HEND.out, HALB.out⟩ HBr.out
            · have qe : ((endT L : Int) != L.length) = true := by rw [bne_iff_ne]; omega
              clear hend
              go_wp2_with fail
              go_ret
              exact right_false HB1.out
    · have he' : n.nm.toList.isEmpty = false := by simpa using he
      clear he
      go_enter Tryd.func34, Tryd.ntmps34
      go_wp2_with fail
      go_ret
      exact right_false (Below.refl _ _)
end Shw
end Go.Proofs.YthamcklkmchkiaaDoor
