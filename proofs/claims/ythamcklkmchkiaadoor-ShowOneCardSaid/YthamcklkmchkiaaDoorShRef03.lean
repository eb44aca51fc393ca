/-
  DERIVED. LAYER 3 (ty), the reference's, walked: how many children, the end of a node, numbers, plain types.
-/
import Derived.Test.YthamcklkmchkiaaDoorShTy
namespace Go.Proofs.YthamcklkmchkiaaDoor
open Go.RowKit
namespace Shw
open Gl Glw Sh

set_option maxHeartbeats 1000000 in
set_option maxRecDepth 100000 in
theorem many03 (n : TN) (w : World) : Calls Tryd.prog 75 #[.agg #[.int .i64 n.k, .string n.nm, .int .i64 n.n]] w fun e w' => e = .returned (.int .i64 (manyT n)) ∧ Below w.heap.size w w' := by
  have hb : Below w.heap.size w (w.alloc (.cells #[.int .i64 n.k, .string n.nm, .int .i64 n.n] 66)) := (Below.refl _ _).alloc (Nat.le_refl _) _
  have HB := Lib.hid hb
  clear hb
  by_cases h5 : n.k = 5
  · have hm : manyT n = 2 := by unfold manyT; rw [if_pos h5]
    have q5 : (n.k == 5) = true := by rw [beq_iff_eq]; exact h5
    have HM := Lib.hid hm
    clear hm h5
    go_enter Tryd.func75, Tryd.ntmps75
    go_wp2
    go_ret
    exact ⟨by rw [HM.out]; rfl, HB.out⟩
  · have q5 : (n.k == 5) = false := by rw [beq_eq_false_iff_ne]; exact h5
    by_cases h6 : n.k = 6
    · have hm : manyT n = n.n := by unfold manyT; rw [if_neg h5, if_pos h6]
      have q6 : (n.k == 6) = true := by rw [beq_iff_eq]; exact h6
      have HM := Lib.hid hm
      clear hm h5 h6
      go_enter Tryd.func75, Tryd.ntmps75
      go_wp2
      go_ret
      exact ⟨by rw [HM.out]; rfl, HB.out⟩
    · have q6 : (n.k == 6) = false := by rw [beq_eq_false_iff_ne]; exact h6
      by_cases h7 : n.k = 7
      · have hm : manyT n = n.n := by unfold manyT; rw [if_neg h5, if_neg h6, if_pos h7]
        have q7 : (n.k == 7) = true := by rw [beq_iff_eq]; exact h7
        have HM := Lib.hid hm
        clear hm h5 h6 h7
        go_enter Tryd.func75, Tryd.ntmps75
        go_wp2
        go_ret
        exact ⟨by rw [HM.out]; rfl, HB.out⟩
      · have q7 : (n.k == 7) = false := by rw [beq_eq_false_iff_ne]; exact h7
        have hm : manyT n = 0 := by unfold manyT; rw [if_neg h5, if_neg h6, if_neg h7]
        have HM := Lib.hid hm
        clear hm h5 h6 h7
        go_enter Tryd.func75, Tryd.ntmps75
        go_wp2
        go_ret
        exact ⟨by rw [HM.out]; rfl, HB.out⟩

set_option maxHeartbeats 2000000 in
set_option maxRecDepth 100000 in
theorem End03 (b off cap i : Nat) (L : List TN) (hi : i < L.length) (w : World) (hRV : RdT w b off L) (hL : L.length ≤ 1000000) :
    Calls Tryd.prog 53 #[.slice (some ⟨b, off, none⟩) L.length cap, .int .i64 i] w fun e w' => e = .returned (.int .i64 (i + endT (L.drop i) : Nat)) ∧ Below w.heap.size w w' := by
  have HRV := Lib.hid hRV
  have qi0 : decide ((i : Int) < 0) = false := by simp
  have qi1 : decide ((L.length : Int) ≤ i) = false := by simp; omega
  clear hRV
  go_enter Tryd.func53, Tryd.ntmps53
  go_wp2_with fail
  go_loopw [5, 6] (fun o j wr => ∃ (O : Int) (k : Nat), o = .int .i64 O ∧ j = .int .i64 k ∧ i ≤ k ∧ k ≤ L.length ∧ k + endTo O (L.drop k) = i + endT (L.drop i) ∧ Below w.heap.size w wr) (fun _ j _ => L.length - (intOf j).toNat)
  case atStart => exact ⟨1, i, rfl, rfl, Nat.le_refl _, by omega, rfl, Below.refl _ _⟩
  case round =>
    obtain ⟨O, k, rfl, rfl, hik, hk, heq, hB⟩ := hrel
    have HEQ := Lib.hid heq
    have HB := Lib.hid hB
    clear heq hB
    by_cases hlt : k < L.length
    · obtain ⟨n, hn, a0, a1, a2⟩ := (HRV.out.since HRV.out.1 HB.out).at_ hlt
      have hk0 : (0 : Int) ≤ k := by omega
      have hlt' : (k : Int) < L.length := by omega
      have HN := Lib.hid hn
      clear hn
      have hmany := fun w => many03 n w
      have HMY := Lib.hid hmany
      clear hmany
      go_wp2_with fail
      refine (HMY.out _).mono ?_
      rintro e w1 ⟨rfl, b1⟩
      have HB1 := Lib.hid (HB.out.trans (b1.mono HB.out.size))
      clear b1 a0 a1 a2 HMY
      dsimp only
      obtain ⟨S, hS⟩ : ∃ S, stepTy O n = S := ⟨_, rfl⟩
      have hSw : wrap64 (wrap64 (O - 1) + manyT n) = S := hS
      have HSW := Lib.hid hSw
      have hst := endTo_step O L k n HN.out
      rw [hS] at hst
      have HST := Lib.hid hst
      clear hS hst
      by_cases hz : S = 0
      · have q0 : (S == 0) = true := by rw [beq_iff_eq]; exact hz
        have HZ := Lib.hid hz
        clear hz
        go_wp2_with fail
        go_ret
        refine ⟨ret_int ?_, HB1.out⟩
        have h1 := HST.out
        have h2 := HEQ.out
        rw [if_pos HZ.out] at h1
        omega
      · have q0 : (S == 0) = false := by rw [beq_eq_false_iff_ne]; exact hz
        have HZ := Lib.hid hz
        clear hz
        go_wp2_with fail
        refine ⟨⟨S, k + 1, by rw [HSW.out], by simp, by omega, by omega, ?_, HB1.out⟩, by simp [intOf]; omega⟩
        have h1 := HST.out
        have h2 := HEQ.out
        rw [if_neg HZ.out] at h1
        omega
    · obtain rfl : k = L.length := by omega
      go_wp2_with fail
      go_ret
      refine ⟨ret_int ?_, HB.out⟩
      have := HEQ.out
      rw [List.drop_length, endTo] at this
      omega

def NumPost (n : TN) (w : World) (e : Ending) (w' : World) : Prop := ∃ b : Bool, e = .returned (.bool b) ∧ (b = true → NumOk n) ∧ Below w.heap.size w w'
theorem num_false {n : TN} {w w' : World} (h : Below w.heap.size w w') : NumPost n w (.returned (.bool false)) w' := ⟨false, rfl, fun h => by simp at h, h⟩
theorem num_dec {n : TN} {w w' : World} {p : Prop} [Decidable p] (hp : p → NumOk n) (h : Below w.heap.size w w') : NumPost n w (.returned (.bool (decide p))) w' := ⟨decide p, rfl, fun e => hp (by simpa using e), h⟩
theorem num_bool {n : TN} {w w' : World} {b : Bool} (hp : b = true → NumOk n) (h : Below w.heap.size w w') : NumPost n w (.returned (.bool b)) w' := ⟨b, rfl, hp, h⟩

set_option maxHeartbeats 4000000 in
set_option maxRecDepth 100000 in
theorem numbered03 (n : TN) (w : World) : Calls Tryd.prog 52 #[.agg #[.int .i64 n.k, .string n.nm, .int .i64 n.n]] w (NumPost n w) := by
  have hb : Below w.heap.size w (w.alloc (.cells #[.int .i64 n.k, .string n.nm, .int .i64 n.n] 66)) := (Below.refl _ _).alloc (Nat.le_refl _) _
  have HB := Lib.hid hb
  clear hb
  by_cases h0 : n.k = 0
  · have q0 : (n.k == 0) = true := by rw [beq_iff_eq]; exact h0
    have HK := Lib.hid h0
    clear h0
    go_enter Tryd.func52, Tryd.ntmps52
    go_wp2
    go_ret
    exact num_dec (fun h => .inl ⟨by have := HK.out; omega, h⟩) HB.out
  · have q0 : (n.k == 0) = false := by rw [beq_eq_false_iff_ne]; exact h0
    by_cases h8 : n.k = 8
    · have q8 : (n.k == 8) = true := by rw [beq_iff_eq]; exact h8
      have HK := Lib.hid h8
      clear h0 h8
      go_enter Tryd.func52, Tryd.ntmps52
      go_wp2
      go_ret
      exact num_dec (fun h => .inl ⟨by have := HK.out; omega, h⟩) HB.out
    · have q8 : (n.k == 8) = false := by rw [beq_eq_false_iff_ne]; exact h8
      by_cases h9 : n.k = 9
      · have q9 : (n.k == 9) = true := by rw [beq_iff_eq]; exact h9
        have HK := Lib.hid h9
        clear h0 h8 h9
        go_enter Tryd.func52, Tryd.ntmps52
        go_wp2
        go_ret
        exact num_dec (fun h => .inl ⟨by have := HK.out; omega, h⟩) HB.out
      · have q9 : (n.k == 9) = false := by rw [beq_eq_false_iff_ne]; exact h9
        by_cases h1 : n.k = 1
        · have q1 : (n.k == 1) = true := by rw [beq_iff_eq]; exact h1
          have HK := Lib.hid h1
          clear h0 h8 h9 h1
          go_enter Tryd.func52, Tryd.ntmps52
          go_wp2
          go_ret
          exact num_bool (fun h => .inr (.inl ⟨by have := HK.out; omega, by simpa using h⟩)) HB.out
        · have q1 : (n.k == 1) = false := by rw [beq_eq_false_iff_ne]; exact h1
          by_cases h2 : n.k = 2
          · have q2 : (n.k == 2) = true := by rw [beq_iff_eq]; exact h2
            have HK := Lib.hid h2
            clear h0 h8 h9 h1 h2
            go_enter Tryd.func52, Tryd.ntmps52
            go_wp2
            go_ret
            exact num_bool (fun h => .inr (.inl ⟨by have := HK.out; omega, by simpa using h⟩)) HB.out
          · have q2 : (n.k == 2) = false := by rw [beq_eq_false_iff_ne]; exact h2
            by_cases h3 : n.k = 3
            · have q3 : (n.k == 3) = true := by rw [beq_iff_eq]; exact h3
              have HK := Lib.hid h3
              clear h0 h8 h9 h1 h2 h3
              go_enter Tryd.func52, Tryd.ntmps52
              go_wp2
              go_ret
              exact num_bool (fun h => .inr (.inl ⟨by have := HK.out; omega, by simpa using h⟩)) HB.out
            · have q3 : (n.k == 3) = false := by rw [beq_eq_false_iff_ne]; exact h3
              by_cases h4 : n.k = 4
              · have q4 : (n.k == 4) = true := by rw [beq_iff_eq]; exact h4
                have HK := Lib.hid h4
                clear h0 h8 h9 h1 h2 h3 h4
                go_enter Tryd.func52, Tryd.ntmps52
                go_wp2
                go_ret
                exact num_bool (fun h => .inr (.inl ⟨by have := HK.out; omega, by simpa using h⟩)) HB.out
              · have q4 : (n.k == 4) = false := by rw [beq_eq_false_iff_ne]; exact h4
                by_cases h5 : n.k = 5
                · have q5 : (n.k == 5) = true := by rw [beq_iff_eq]; exact h5
                  have HK := Lib.hid h5
                  clear h0 h8 h9 h1 h2 h3 h4 h5
                  go_enter Tryd.func52, Tryd.ntmps52
                  go_wp2
                  go_ret
                  exact num_bool (fun h => .inr (.inl ⟨by have := HK.out; omega, by simpa using h⟩)) HB.out
                · have q5 : (n.k == 5) = false := by rw [beq_eq_false_iff_ne]; exact h5
                  by_cases h6 : n.k = 6
                  · have q6 : (n.k == 6) = true := by rw [beq_iff_eq]; exact h6
                    have HK := Lib.hid h6
                    clear h0 h8 h9 h1 h2 h3 h4 h5 h6
                    by_cases b0 : 0 ≤ n.n
                    · by_cases b1 : n.n ≤ 50
                      · have hok := Lib.hid (show NumOk n from .inr (.inr (.inl ⟨HK.out, b0, b1⟩)))
                        have hB0 := Lib.hid b0
                        go_enter Tryd.func52, Tryd.ntmps52
                        go_wp2
                        go_ret
                        exact num_bool (fun _ => hok.out) HB.out
                      · have c1 : decide (n.n ≤ 50) = false := by simpa using b1
                        clear b1
                        go_enter Tryd.func52, Tryd.ntmps52
                        go_wp2
                        go_ret
                        exact num_false HB.out
                    · have c0 : decide (0 ≤ n.n) = false := by simpa using b0
                      clear b0
                      go_enter Tryd.func52, Tryd.ntmps52
                      go_wp2
                      go_ret
                      exact num_false HB.out
                  · have q6 : (n.k == 6) = false := by rw [beq_eq_false_iff_ne]; exact h6
                    by_cases h7 : n.k = 7
                    · have q7 : (n.k == 7) = true := by rw [beq_iff_eq]; exact h7
                      have HK := Lib.hid h7
                      clear h0 h8 h9 h1 h2 h3 h4 h5 h6 h7
                      by_cases b0 : 1 ≤ n.n
                      · by_cases b1 : n.n ≤ 50
                        · have hok := Lib.hid (show NumOk n from .inr (.inr (.inr ⟨HK.out, b0, b1⟩)))
                          have hB0 := Lib.hid b0
                          go_enter Tryd.func52, Tryd.ntmps52
                          go_wp2
                          go_ret
                          exact num_bool (fun _ => hok.out) HB.out
                        · have c1 : decide (n.n ≤ 50) = false := by simpa using b1
                          clear b1
                          go_enter Tryd.func52, Tryd.ntmps52
                          go_wp2
                          go_ret
                          exact num_false HB.out
                      · have c0 : decide (1 ≤ n.n) = false := by simpa using b0
                        clear b0
                        go_enter Tryd.func52, Tryd.ntmps52
                        go_wp2
                        go_ret
                        exact num_false HB.out
                    · have q7 : (n.k == 7) = false := by rw [beq_eq_false_iff_ne]; exact h7
                      clear h0 h8 h9 h1 h2 h3 h4 h5 h6 h7
                      go_enter Tryd.func52, Tryd.ntmps52
                      go_wp2
                      go_ret
                      exact num_false HB.out

/-- No variable stands in it. -/
def PlainT (L : List TN) : Prop := ∀ n ∈ L, n.k ≠ 8 ∧ n.k ≠ 9
def PlainPost (L : List TN) (w : World) (e : Ending) (w' : World) : Prop := ∃ b : Bool, e = .returned (.bool b) ∧ (b = true → PlainT L) ∧ w = w'

set_option maxHeartbeats 2000000 in
set_option maxRecDepth 100000 in
theorem Plain03 (b off cap : Nat) (L : List TN) (w : World) (hRV : RdT w b off L) (hL : L.length ≤ 1000000) :
    Calls Tryd.prog 35 #[.slice (some ⟨b, off, none⟩) L.length cap] w (PlainPost L w) := by
  have HRV := Lib.hid hRV
  clear hRV
  go_enter Tryd.func35, Tryd.ntmps35
  go_wp2
  go_loop [3] (fun i => ∃ k : Nat, k ≤ L.length ∧ i = .int .i64 k ∧ ∀ j n, j < k → L[j]? = some n → n.k ≠ 8 ∧ n.k ≠ 9) (fun i => L.length - (intOf i).toNat)
  case atStart => exact ⟨0, Nat.zero_le _, rfl, fun j n h => by omega⟩
  case round =>
    obtain ⟨k, hk, rfl, hall⟩ := hrel
    have HALL := Lib.hid hall
    clear hall
    by_cases hlt : k < L.length
    · obtain ⟨n, hn, a0, a1, a2⟩ := HRV.out.at_ hlt
      have hk0 : (0 : Int) ≤ k := by omega
      have hlt' : (k : Int) < L.length := by omega
      have HN := Lib.hid hn
      clear hn a1 a2
      by_cases h8 : n.k = 8
      · have q8 : (n.k == 8) = true := by rw [beq_iff_eq]; exact h8
        clear h8
        go_wp2
        go_ret
        exact ⟨false, rfl, fun h => by simp at h, rfl⟩
      · have q8 : (n.k == 8) = false := by rw [beq_eq_false_iff_ne]; exact h8
        by_cases h9 : n.k = 9
        · have q9 : (n.k == 9) = true := by rw [beq_iff_eq]; exact h9
          clear h8 h9
          go_wp2
          go_ret
          exact ⟨false, rfl, fun h => by simp at h, rfl⟩
        · have q9 : (n.k == 9) = false := by rw [beq_eq_false_iff_ne]; exact h9
          have H8 := Lib.hid h8
          have H9 := Lib.hid h9
          clear h8 h9
          go_wp2
          go_round
          case rel =>
            refine ⟨k + 1, by omega, by go_num, fun j x hj hx => ?_⟩
            by_cases e : j = k
            · subst e
              rw [HN.out] at hx
              obtain rfl := Option.some.inj hx
              exact ⟨H8.out, H9.out⟩
            · exact HALL.out j x (by omega) hx
          case measure => simp [intOf]; omega
    · obtain rfl : k = L.length := by omega
      go_wp2
      go_ret
      refine ⟨true, rfl, fun _ n hn => ?_, rfl⟩
      obtain ⟨i, hi, rfl⟩ := List.getElem_of_mem hn
      exact HALL.out i _ hi (List.getElem?_eq_getElem hi)
end Shw
end Go.Proofs.YthamcklkmchkiaaDoor
