/-
  DERIVED. THE STATEMENT ShowErrors, WALKED.
-/
import Derived.Test.YthamcklkmchkiaaDoorShAlive
import Derived.Deep.RegionHeld3
namespace Go.Proofs.YthamcklkmchkiaaDoor
open Go.RowKit
namespace Shw
open Gl Glw Sh

theorem keep0 {W wx w' : World} {B : Nat} {v : Go.Value} (h : Below W.heap.size W wx ∧ wx.cell? ⟨B, 0, none⟩ = some v) (hB : B < W.heap.size) (b : Below wx.heap.size wx w') :
    Below W.heap.size W w' ∧ w'.cell? ⟨B, 0, none⟩ = some v :=
  ⟨h.1.trans (b.mono h.1.size), (b.cell (p := ⟨B, 0, none⟩) (Nat.lt_of_lt_of_le hB h.1.size)).trans h.2⟩

theorem env0 {W wx : World} {B : Nat} {v : Go.Value} (hE : Env W) (h : Below W.heap.size W wx ∧ wx.cell? ⟨B, 0, none⟩ = some v) : Env wx := hE.below h.1

set_option maxHeartbeats 2000000 in
set_option maxRecDepth 100000 in
theorem law_errors (m t : ByteArray) (a e : Int) (_ha : -9223372036854775808 ≤ a ∧ a ≤ 9223372036854775807) (he : -9223372036854775808 ≤ e ∧ e ≤ 9223372036854775807) (w : World) (hE : Env w) :
    Calls Tryd.prog 3 #[.string m, .string t, .agg #[.int .i64 a, .int .i64 e]] w fun en w' => en = .returned (.bool true) ∧ Below w.heap.size w w' := by
  have hb : Below w.heap.size w (w.alloc (.cells #[.int .i64 a, .int .i64 e] 22)) := (Below.refl _ _).alloc (Nat.le_refl _) _
  have HE := Lib.hid (hE.below hb)
  have HB := Lib.hid hb
  clear hE hb
  by_cases h : 100 < m.size
  · have h' : (100 : Int) < m.size := by omega
    go_enter Tryd.func3, Tryd.ntmps3
    go_wp2_with fail
    refine (alive _ HE.out).mono ?_
    rintro en w1 ⟨rfl, b1⟩
    dsimp only
    go_wp2
    go_ret
    exact ⟨rfl, HB.out.trans (b1.mono HB.out.size)⟩
  · have h' : (m.size : Int) ≤ 100 := by omega
    by_cases h2 : 1000 < t.size
    · have h2' : (1000 : Int) < t.size := by omega
      go_enter Tryd.func3, Tryd.ntmps3
      go_wp2_with fail
      refine (alive _ HE.out).mono ?_
      rintro en w1 ⟨rfl, b1⟩
      dsimp only
      go_wp2
      go_ret
      exact ⟨rfl, HB.out.trans (b1.mono HB.out.size)⟩
    · have h2' : (t.size : Int) ≤ 1000 := by omega
      have hW1 := fun w hE => Wrong m t a e w hE (by omega) (by omega) he.1 he.2
      have hW2 := fun w => refWrong m t a e w (by omega) (by omega) he.1 he.2
      have hE1 := fun w hE => Error e w hE he.1 he.2
      have hE2 := fun w => refError e w he.1 he.2
      generalize (⟨(wrongL m.data.toList t.data.toList a e).toArray⟩ : ByteArray) = z at hW1 hW2
      generalize (⟨(errL e).toArray⟩ : ByteArray) = y at hE1 hE2
      have HW1 := Lib.hid hW1
      have HW2 := Lib.hid hW2
      have HE1 := Lib.hid hE1
      have HE2 := Lib.hid hE2
      clear hW1 hW2 hE1 hE2
      go_enter Tryd.func3, Tryd.ntmps3
      go_wp2_with fail
      have hc0 : (w.alloc (.cells #[.int .i64 a, .int .i64 e] 22)).cell? ⟨w.heap.size, 0, none⟩ = some (.int .i64 a) := by rw [World.cell?_alloc_at _ _ _ _ rfl]; rfl
      have hlt : w.heap.size < (w.alloc (.cells #[.int .i64 a, .int .i64 e] 22)).heap.size := by simp
      generalize w.alloc (.cells #[.int .i64 a, .int .i64 e] 22) = W1 at HE HB hc0 hlt ⊢
      have hS : Below W1.heap.size W1 W1 ∧ W1.cell? ⟨w.heap.size, 0, none⟩ = some (.int .i64 a) := ⟨Below.refl _ _, hc0⟩
      go_region_held3 (fun wx => Below W1.heap.size W1 wx ∧ wx.cell? ⟨w.heap.size, 0, none⟩ = some (.int .i64 a)) (first | assumption | exact ⟨hS.1.drew, hS.2⟩) (first
        | (go_at_call 9; refine (alive _ (env0 HE.out (by assumption))).mono ?_; rintro en w3 ⟨rfl, b3⟩; have s3 := keep0 (by assumption) hlt b3)
        | (go_at_call 10; refine (HE1.out _ (env0 HE.out (by assumption))).mono ?_; rintro en w4 ⟨rfl, b4⟩; have s4 := keep0 (by assumption) hlt b4)
        | (go_at_call 11; refine (HE2.out _).mono ?_; rintro en w5 ⟨rfl, b5⟩; have s5 := keep0 (by assumption) hlt b5)
        | (go_at_call 12; refine (HW1.out _ (env0 HE.out (by assumption))).mono ?_; rintro en w6 ⟨rfl, b6⟩; have s6 := keep0 (by assumption) hlt b6)
        | (go_at_call 13; refine (HW2.out _).mono ?_; rintro en w7 ⟨rfl, b7⟩; have s7 := keep0 (by assumption) hlt b7))
      go_wp2
      go_ret
      exact ⟨rfl, HB.out.trans (s7.1.mono HB.out.size)⟩
end Shw
end Go.Proofs.YthamcklkmchkiaaDoor
