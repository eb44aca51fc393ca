/-
  DERIVED. THE STATEMENT GlyphMore, WALKED: by intervals of the byte, and by what the text is. The cases are printed by program (wip/gen_more.py).
-/
import Derived.Test.YtjjkbfjahljeeaaDoorGlMore
import Derived.BigGuard
import Derived.BigCall
namespace Go.Proofs.YtjjkbfjahljeeaaDoor
open Go.RowKit
namespace Glw
open Gl



set_option maxHeartbeats 2000000 in
set_option maxRecDepth 100000 in
theorem more_a0 (s : ByteArray) (z : Int) (b : UInt8) (hb : z = b.toNat) (_l0 : 0 ≤ z) (_l1 : z ≤ 47) (_h : (s.size : Int) ≤ 2000) (hz : s.size = 0) (hw : wordL s.data.toList = false) (ht : tagL s.data.toList = false)
    (hw' : wordL (s ++ ⟨#[b]⟩).data.toList = false) (ht' : tagL (s ++ ⟨#[b]⟩).data.toList = false) (w : World) (hT : Tabs w) :
    Calls Tryd.prog 8 #[.string s, .int .u8 z] w fun e w' => e = .returned (.bool true) ∧ Below w.heap.size w w' := by
  have HT := Lib.hid hT
  have HW := Lib.hid hw
  have HG := Lib.hid ht
  have HW' := Lib.hid hw'
  have HG' := Lib.hid ht'
  have hcv := conv_one' w z b hb
  have hzi : ((s.size : Int)) = 0 := by omega
  have e0 : decide (97 ≤ z) = false := by simp; omega
  have e1 : decide (z ≤ 122) = true := by simp; omega
  have e2 : decide (65 ≤ z) = false := by simp; omega
  have e3 : decide (z ≤ 90) = true := by simp; omega
  have e4 : decide (48 ≤ z) = false := by simp; omega
  have e5 : decide (z ≤ 57) = true := by simp; omega
  have e6 : (z == 95) = false := by rw [beq_eq_false_iff_ne]; omega
  have hsb : (ByteArray.mk #[b]).size = 1 := rfl
  clear hT hw ht hw' ht' hb
  go_enter Tryd.func8, Tryd.ntmps8
  go_wp2_with fail
  refine (IsWord_is s _ HW.out _).mono ?_
  rintro e w1 ⟨rfl, b1⟩
  have c1 := ((Below.refl w.heap.size w).alloc (Nat.le_refl _) (.cells #[.int .u8 z] 5)).trans (b1.mono (by simp))
  clear b1 hcv
  dsimp only
  repeat (first | go_values | go_skip | go_guarded | go_step | go_upon | go_back)
  refine (IsTag_is s _ HG.out _).mono ?_
  rintro e w2 ⟨rfl, b2⟩
  have c2 := c1.trans (b2.mono c1.size)
  clear b2 c1
  dsimp only
  repeat (first | go_values | go_skip | go_guarded | go_step | go_upon | go_back)
  refine (alive _ (Utf8Tabs_below HT.out c2)).mono ?_
  rintro e w3 ⟨rfl, b3⟩
  have c3 := c2.trans (b3.mono c2.size)
  clear b3 c2
  dsimp only
  repeat (first | go_values | go_skip | go_guarded | go_step | go_upon | go_back)
  have q3 := IsWord_is (s ++ ⟨#[b]⟩) _ HW'.out w3
  refine Calls.mono q3 ?_
  clear q3
  rintro e w4 ⟨rfl, b4⟩
  have c4 := c3.trans (b4.mono c3.size)
  clear b4 c3
  dsimp only
  repeat (first | go_values | go_skip | go_guarded | go_step | go_upon | go_back)
  have q4 := IsTag_is (s ++ ⟨#[b]⟩) _ HG'.out w4
  refine Calls.mono q4 ?_
  clear q4
  rintro e w5 ⟨rfl, b5⟩
  have c5 := c4.trans (b5.mono c4.size)
  clear b5 c4
  dsimp only
  repeat (first | go_values | go_skip | go_guarded | go_step | go_upon | go_back)
  go_ret
  exact ⟨rfl, c5⟩

set_option maxHeartbeats 2000000 in
set_option maxRecDepth 100000 in
theorem more_a1 (s : ByteArray) (z : Int) (b : UInt8) (hb : z = b.toNat) (_l0 : 0 ≤ z) (_l1 : z ≤ 47) (_h : (s.size : Int) ≤ 2000) (hz : 0 < s.size) (hw : wordL s.data.toList = false) (ht : tagL s.data.toList = false)
    (hw' : wordL (s ++ ⟨#[b]⟩).data.toList = false) (ht' : tagL (s ++ ⟨#[b]⟩).data.toList = false) (w : World) (hT : Tabs w) :
    Calls Tryd.prog 8 #[.string s, .int .u8 z] w fun e w' => e = .returned (.bool true) ∧ Below w.heap.size w w' := by
  have HT := Lib.hid hT
  have HW := Lib.hid hw
  have HG := Lib.hid ht
  have HW' := Lib.hid hw'
  have HG' := Lib.hid ht'
  have hcv := conv_one' w z b hb
  have hzi : (0 : Int) < (s.size : Int) := by omega
  have e0 : decide (97 ≤ z) = false := by simp; omega
  have e1 : decide (z ≤ 122) = true := by simp; omega
  have e2 : decide (65 ≤ z) = false := by simp; omega
  have e3 : decide (z ≤ 90) = true := by simp; omega
  have e4 : decide (48 ≤ z) = false := by simp; omega
  have e5 : decide (z ≤ 57) = true := by simp; omega
  have e6 : (z == 95) = false := by rw [beq_eq_false_iff_ne]; omega
  have hsb : (ByteArray.mk #[b]).size = 1 := rfl
  clear hT hw ht hw' ht' hb
  go_enter Tryd.func8, Tryd.ntmps8
  go_wp2_with fail
  refine (IsWord_is s _ HW.out _).mono ?_
  rintro e w1 ⟨rfl, b1⟩
  have c1 := ((Below.refl w.heap.size w).alloc (Nat.le_refl _) (.cells #[.int .u8 z] 5)).trans (b1.mono (by simp))
  clear b1 hcv
  dsimp only
  repeat (first | go_values | go_skip | go_guarded | go_step | go_upon | go_back)
  refine (IsTag_is s _ HG.out _).mono ?_
  rintro e w2 ⟨rfl, b2⟩
  have c2 := c1.trans (b2.mono c1.size)
  clear b2 c1
  dsimp only
  repeat (first | go_values | go_skip | go_guarded | go_step | go_upon | go_back)
  have q2 := IsWord_is (s ++ ⟨#[b]⟩) _ HW'.out w2
  refine Calls.mono q2 ?_
  clear q2
  rintro e w3 ⟨rfl, b3⟩
  have c3 := c2.trans (b3.mono c2.size)
  clear b3 c2
  dsimp only
  repeat (first | go_values | go_skip | go_guarded | go_step | go_upon | go_back)
  have q3 := IsTag_is (s ++ ⟨#[b]⟩) _ HG'.out w3
  refine Calls.mono q3 ?_
  clear q3
  rintro e w4 ⟨rfl, b4⟩
  have c4 := c3.trans (b4.mono c3.size)
  clear b4 c3
  dsimp only
  repeat (first | go_values | go_skip | go_guarded | go_step | go_upon | go_back)
  refine (alive _ (Utf8Tabs_below HT.out c4)).mono ?_
  rintro e w5 ⟨rfl, b5⟩
  have c5 := c4.trans (b5.mono c4.size)
  clear b5 c4
  dsimp only
  repeat (first | go_values | go_skip | go_guarded | go_step | go_upon | go_back)
  go_ret
  exact ⟨rfl, c5⟩

set_option maxHeartbeats 2000000 in
set_option maxRecDepth 100000 in
theorem more_a2 (s : ByteArray) (z : Int) (b : UInt8) (hb : z = b.toNat) (_l0 : 0 ≤ z) (_l1 : z ≤ 47) (_h : (s.size : Int) ≤ 2000) (hz : 0 < s.size) (hw : wordL s.data.toList = true) (ht : tagL s.data.toList = false)
    (hw' : wordL (s ++ ⟨#[b]⟩).data.toList = false) (ht' : tagL (s ++ ⟨#[b]⟩).data.toList = false) (w : World) (hT : Tabs w) :
    Calls Tryd.prog 8 #[.string s, .int .u8 z] w fun e w' => e = .returned (.bool true) ∧ Below w.heap.size w w' := by
  have HT := Lib.hid hT
  have HW := Lib.hid hw
  have HG := Lib.hid ht
  have HW' := Lib.hid hw'
  have HG' := Lib.hid ht'
  have hcv := conv_one' w z b hb
  have hzi : (0 : Int) < (s.size : Int) := by omega
  have e0 : decide (97 ≤ z) = false := by simp; omega
  have e1 : decide (z ≤ 122) = true := by simp; omega
  have e2 : decide (65 ≤ z) = false := by simp; omega
  have e3 : decide (z ≤ 90) = true := by simp; omega
  have e4 : decide (48 ≤ z) = false := by simp; omega
  have e5 : decide (z ≤ 57) = true := by simp; omega
  have e6 : (z == 95) = false := by rw [beq_eq_false_iff_ne]; omega
  have hsb : (ByteArray.mk #[b]).size = 1 := rfl
  clear hT hw ht hw' ht' hb
  go_enter Tryd.func8, Tryd.ntmps8
  go_wp2_with fail
  refine (IsWord_is s _ HW.out _).mono ?_
  rintro e w1 ⟨rfl, b1⟩
  have c1 := ((Below.refl w.heap.size w).alloc (Nat.le_refl _) (.cells #[.int .u8 z] 5)).trans (b1.mono (by simp))
  clear b1 hcv
  dsimp only
  repeat (first | go_values | go_skip | go_guarded | go_step | go_upon | go_back)
  refine (IsTag_is s _ HG.out _).mono ?_
  rintro e w2 ⟨rfl, b2⟩
  have c2 := c1.trans (b2.mono c1.size)
  clear b2 c1
  dsimp only
  repeat (first | go_values | go_skip | go_guarded | go_step | go_upon | go_back)
  have q2 := IsWord_is (s ++ ⟨#[b]⟩) _ HW'.out w2
  refine Calls.mono q2 ?_
  clear q2
  rintro e w3 ⟨rfl, b3⟩
  have c3 := c2.trans (b3.mono c2.size)
  clear b3 c2
  dsimp only
  repeat (first | go_values | go_skip | go_guarded | go_step | go_upon | go_back)
  have q3 := IsTag_is (s ++ ⟨#[b]⟩) _ HG'.out w3
  refine Calls.mono q3 ?_
  clear q3
  rintro e w4 ⟨rfl, b4⟩
  have c4 := c3.trans (b4.mono c3.size)
  clear b4 c3
  dsimp only
  repeat (first | go_values | go_skip | go_guarded | go_step | go_upon | go_back)
  refine (alive _ (Utf8Tabs_below HT.out c4)).mono ?_
  rintro e w5 ⟨rfl, b5⟩
  have c5 := c4.trans (b5.mono c4.size)
  clear b5 c4
  dsimp only
  repeat (first | go_values | go_skip | go_guarded | go_step | go_upon | go_back)
  go_ret
  exact ⟨rfl, c5⟩

set_option maxHeartbeats 2000000 in
set_option maxRecDepth 100000 in
theorem more_a3 (s : ByteArray) (z : Int) (b : UInt8) (hb : z = b.toNat) (_l0 : 0 ≤ z) (_l1 : z ≤ 47) (_h : (s.size : Int) ≤ 2000) (hz : 0 < s.size) (hw : wordL s.data.toList = false) (ht : tagL s.data.toList = true)
    (hw' : wordL (s ++ ⟨#[b]⟩).data.toList = false) (ht' : tagL (s ++ ⟨#[b]⟩).data.toList = false) (w : World) (hT : Tabs w) :
    Calls Tryd.prog 8 #[.string s, .int .u8 z] w fun e w' => e = .returned (.bool true) ∧ Below w.heap.size w w' := by
  have HT := Lib.hid hT
  have HW := Lib.hid hw
  have HG := Lib.hid ht
  have HW' := Lib.hid hw'
  have HG' := Lib.hid ht'
  have hcv := conv_one' w z b hb
  have hzi : (0 : Int) < (s.size : Int) := by omega
  have e0 : decide (97 ≤ z) = false := by simp; omega
  have e1 : decide (z ≤ 122) = true := by simp; omega
  have e2 : decide (65 ≤ z) = false := by simp; omega
  have e3 : decide (z ≤ 90) = true := by simp; omega
  have e4 : decide (48 ≤ z) = false := by simp; omega
  have e5 : decide (z ≤ 57) = true := by simp; omega
  have e6 : (z == 95) = false := by rw [beq_eq_false_iff_ne]; omega
  have hsb : (ByteArray.mk #[b]).size = 1 := rfl
  clear hT hw ht hw' ht' hb
  go_enter Tryd.func8, Tryd.ntmps8
  go_wp2_with fail
  refine (IsWord_is s _ HW.out _).mono ?_
  rintro e w1 ⟨rfl, b1⟩
  have c1 := ((Below.refl w.heap.size w).alloc (Nat.le_refl _) (.cells #[.int .u8 z] 5)).trans (b1.mono (by simp))
  clear b1 hcv
  dsimp only
  repeat (first | go_values | go_skip | go_guarded | go_step | go_upon | go_back)
  refine (IsTag_is s _ HG.out _).mono ?_
  rintro e w2 ⟨rfl, b2⟩
  have c2 := c1.trans (b2.mono c1.size)
  clear b2 c1
  dsimp only
  repeat (first | go_values | go_skip | go_guarded | go_step | go_upon | go_back)
  have q2 := IsWord_is (s ++ ⟨#[b]⟩) _ HW'.out w2
  refine Calls.mono q2 ?_
  clear q2
  rintro e w3 ⟨rfl, b3⟩
  have c3 := c2.trans (b3.mono c2.size)
  clear b3 c2
  dsimp only
  repeat (first | go_values | go_skip | go_guarded | go_step | go_upon | go_back)
  have q3 := IsTag_is (s ++ ⟨#[b]⟩) _ HG'.out w3
  refine Calls.mono q3 ?_
  clear q3
  rintro e w4 ⟨rfl, b4⟩
  have c4 := c3.trans (b4.mono c3.size)
  clear b4 c3
  dsimp only
  repeat (first | go_values | go_skip | go_guarded | go_step | go_upon | go_back)
  refine (alive _ (Utf8Tabs_below HT.out c4)).mono ?_
  rintro e w5 ⟨rfl, b5⟩
  have c5 := c4.trans (b5.mono c4.size)
  clear b5 c4
  dsimp only
  repeat (first | go_values | go_skip | go_guarded | go_step | go_upon | go_back)
  go_ret
  exact ⟨rfl, c5⟩

set_option maxHeartbeats 2000000 in
set_option maxRecDepth 100000 in
theorem more_b0 (s : ByteArray) (z : Int) (b : UInt8) (hb : z = b.toNat) (_l0 : 48 ≤ z) (_l1 : z ≤ 57) (_h : (s.size : Int) ≤ 2000) (hz : s.size = 0) (hw : wordL s.data.toList = false) (ht : tagL s.data.toList = false)
    (hw' : wordL (s ++ ⟨#[b]⟩).data.toList = false) (ht' : tagL (s ++ ⟨#[b]⟩).data.toList = false) (w : World) (hT : Tabs w) :
    Calls Tryd.prog 8 #[.string s, .int .u8 z] w fun e w' => e = .returned (.bool true) ∧ Below w.heap.size w w' := by
  have HT := Lib.hid hT
  have HW := Lib.hid hw
  have HG := Lib.hid ht
  have HW' := Lib.hid hw'
  have HG' := Lib.hid ht'
  have hcv := conv_one' w z b hb
  have hzi : ((s.size : Int)) = 0 := by omega
  have e0 : decide (97 ≤ z) = false := by simp; omega
  have e1 : decide (z ≤ 122) = true := by simp; omega
  have e2 : decide (65 ≤ z) = false := by simp; omega
  have e3 : decide (z ≤ 90) = true := by simp; omega
  have e4 : decide (48 ≤ z) = true := by simp; omega
  have e5 : decide (z ≤ 57) = true := by simp; omega
  have e6 : (z == 95) = false := by rw [beq_eq_false_iff_ne]; omega
  have hsb : (ByteArray.mk #[b]).size = 1 := rfl
  clear hT hw ht hw' ht' hb
  go_enter Tryd.func8, Tryd.ntmps8
  go_wp2_with fail
  refine (IsWord_is s _ HW.out _).mono ?_
  rintro e w1 ⟨rfl, b1⟩
  have c1 := ((Below.refl w.heap.size w).alloc (Nat.le_refl _) (.cells #[.int .u8 z] 5)).trans (b1.mono (by simp))
  clear b1 hcv
  dsimp only
  repeat (first | go_values | go_skip | go_guarded | go_step | go_upon | go_back)
  refine (IsTag_is s _ HG.out _).mono ?_
  rintro e w2 ⟨rfl, b2⟩
  have c2 := c1.trans (b2.mono c1.size)
  clear b2 c1
  dsimp only
  repeat (first | go_values | go_skip | go_guarded | go_step | go_upon | go_back)
  refine (alive _ (Utf8Tabs_below HT.out c2)).mono ?_
  rintro e w3 ⟨rfl, b3⟩
  have c3 := c2.trans (b3.mono c2.size)
  clear b3 c2
  dsimp only
  repeat (first | go_values | go_skip | go_guarded | go_step | go_upon | go_back)
  have q3 := IsWord_is (s ++ ⟨#[b]⟩) _ HW'.out w3
  refine Calls.mono q3 ?_
  clear q3
  rintro e w4 ⟨rfl, b4⟩
  have c4 := c3.trans (b4.mono c3.size)
  clear b4 c3
  dsimp only
  repeat (first | go_values | go_skip | go_guarded | go_step | go_upon | go_back)
  have q4 := IsTag_is (s ++ ⟨#[b]⟩) _ HG'.out w4
  refine Calls.mono q4 ?_
  clear q4
  rintro e w5 ⟨rfl, b5⟩
  have c5 := c4.trans (b5.mono c4.size)
  clear b5 c4
  dsimp only
  repeat (first | go_values | go_skip | go_guarded | go_step | go_upon | go_back)
  go_ret
  exact ⟨rfl, c5⟩

set_option maxHeartbeats 2000000 in
set_option maxRecDepth 100000 in
theorem more_b1 (s : ByteArray) (z : Int) (b : UInt8) (hb : z = b.toNat) (_l0 : 48 ≤ z) (_l1 : z ≤ 57) (_h : (s.size : Int) ≤ 2000) (hz : 0 < s.size) (hw : wordL s.data.toList = false) (ht : tagL s.data.toList = false)
    (hw' : wordL (s ++ ⟨#[b]⟩).data.toList = false) (ht' : tagL (s ++ ⟨#[b]⟩).data.toList = false) (w : World) (hT : Tabs w) :
    Calls Tryd.prog 8 #[.string s, .int .u8 z] w fun e w' => e = .returned (.bool true) ∧ Below w.heap.size w w' := by
  have HT := Lib.hid hT
  have HW := Lib.hid hw
  have HG := Lib.hid ht
  have HW' := Lib.hid hw'
  have HG' := Lib.hid ht'
  have hcv := conv_one' w z b hb
  have hzi : (0 : Int) < (s.size : Int) := by omega
  have e0 : decide (97 ≤ z) = false := by simp; omega
  have e1 : decide (z ≤ 122) = true := by simp; omega
  have e2 : decide (65 ≤ z) = false := by simp; omega
  have e3 : decide (z ≤ 90) = true := by simp; omega
  have e4 : decide (48 ≤ z) = true := by simp; omega
  have e5 : decide (z ≤ 57) = true := by simp; omega
  have e6 : (z == 95) = false := by rw [beq_eq_false_iff_ne]; omega
  have hsb : (ByteArray.mk #[b]).size = 1 := rfl
  clear hT hw ht hw' ht' hb
  go_enter Tryd.func8, Tryd.ntmps8
  go_wp2_with fail
  refine (IsWord_is s _ HW.out _).mono ?_
  rintro e w1 ⟨rfl, b1⟩
  have c1 := ((Below.refl w.heap.size w).alloc (Nat.le_refl _) (.cells #[.int .u8 z] 5)).trans (b1.mono (by simp))
  clear b1 hcv
  dsimp only
  repeat (first | go_values | go_skip | go_guarded | go_step | go_upon | go_back)
  refine (IsTag_is s _ HG.out _).mono ?_
  rintro e w2 ⟨rfl, b2⟩
  have c2 := c1.trans (b2.mono c1.size)
  clear b2 c1
  dsimp only
  repeat (first | go_values | go_skip | go_guarded | go_step | go_upon | go_back)
  have q2 := IsWord_is (s ++ ⟨#[b]⟩) _ HW'.out w2
  refine Calls.mono q2 ?_
  clear q2
  rintro e w3 ⟨rfl, b3⟩
  have c3 := c2.trans (b3.mono c2.size)
  clear b3 c2
  dsimp only
  repeat (first | go_values | go_skip | go_guarded | go_step | go_upon | go_back)
  have q3 := IsTag_is (s ++ ⟨#[b]⟩) _ HG'.out w3
  refine Calls.mono q3 ?_
  clear q3
  rintro e w4 ⟨rfl, b4⟩
  have c4 := c3.trans (b4.mono c3.size)
  clear b4 c3
  dsimp only
  repeat (first | go_values | go_skip | go_guarded | go_step | go_upon | go_back)
  refine (alive _ (Utf8Tabs_below HT.out c4)).mono ?_
  rintro e w5 ⟨rfl, b5⟩
  have c5 := c4.trans (b5.mono c4.size)
  clear b5 c4
  dsimp only
  repeat (first | go_values | go_skip | go_guarded | go_step | go_upon | go_back)
  go_ret
  exact ⟨rfl, c5⟩

set_option maxHeartbeats 2000000 in
set_option maxRecDepth 100000 in
theorem more_b2 (s : ByteArray) (z : Int) (b : UInt8) (hb : z = b.toNat) (_l0 : 48 ≤ z) (_l1 : z ≤ 57) (_h : (s.size : Int) ≤ 2000) (hz : 0 < s.size) (hw : wordL s.data.toList = true) (ht : tagL s.data.toList = false)
    (hw' : wordL (s ++ ⟨#[b]⟩).data.toList = true) (ht' : tagL (s ++ ⟨#[b]⟩).data.toList = false) (w : World) (hT : Tabs w) :
    Calls Tryd.prog 8 #[.string s, .int .u8 z] w fun e w' => e = .returned (.bool true) ∧ Below w.heap.size w w' := by
  have HT := Lib.hid hT
  have HW := Lib.hid hw
  have HG := Lib.hid ht
  have HW' := Lib.hid hw'
  have HG' := Lib.hid ht'
  have hcv := conv_one' w z b hb
  have hzi : (0 : Int) < (s.size : Int) := by omega
  have e0 : decide (97 ≤ z) = false := by simp; omega
  have e1 : decide (z ≤ 122) = true := by simp; omega
  have e2 : decide (65 ≤ z) = false := by simp; omega
  have e3 : decide (z ≤ 90) = true := by simp; omega
  have e4 : decide (48 ≤ z) = true := by simp; omega
  have e5 : decide (z ≤ 57) = true := by simp; omega
  have e6 : (z == 95) = false := by rw [beq_eq_false_iff_ne]; omega
  have hsb : (ByteArray.mk #[b]).size = 1 := rfl
  clear hT hw ht hw' ht' hb
  go_enter Tryd.func8, Tryd.ntmps8
  go_wp2_with fail
  refine (IsWord_is s _ HW.out _).mono ?_
  rintro e w1 ⟨rfl, b1⟩
  have c1 := ((Below.refl w.heap.size w).alloc (Nat.le_refl _) (.cells #[.int .u8 z] 5)).trans (b1.mono (by simp))
  clear b1 hcv
  dsimp only
  repeat (first | go_values | go_skip | go_guarded | go_step | go_upon | go_back)
  refine (IsTag_is s _ HG.out _).mono ?_
  rintro e w2 ⟨rfl, b2⟩
  have c2 := c1.trans (b2.mono c1.size)
  clear b2 c1
  dsimp only
  repeat (first | go_values | go_skip | go_guarded | go_step | go_upon | go_back)
  have q2 := IsWord_is (s ++ ⟨#[b]⟩) _ HW'.out w2
  refine Calls.mono q2 ?_
  clear q2
  rintro e w3 ⟨rfl, b3⟩
  have c3 := c2.trans (b3.mono c2.size)
  clear b3 c2
  dsimp only
  repeat (first | go_values | go_skip | go_guarded | go_step | go_upon | go_back)
  have q3 := IsTag_is (s ++ ⟨#[b]⟩) _ HG'.out w3
  refine Calls.mono q3 ?_
  clear q3
  rintro e w4 ⟨rfl, b4⟩
  have c4 := c3.trans (b4.mono c3.size)
  clear b4 c3
  dsimp only
  repeat (first | go_values | go_skip | go_guarded | go_step | go_upon | go_back)
  refine (alive _ (Utf8Tabs_below HT.out c4)).mono ?_
  rintro e w5 ⟨rfl, b5⟩
  have c5 := c4.trans (b5.mono c4.size)
  clear b5 c4
  dsimp only
  repeat (first | go_values | go_skip | go_guarded | go_step | go_upon | go_back)
  go_ret
  exact ⟨rfl, c5⟩

set_option maxHeartbeats 2000000 in
set_option maxRecDepth 100000 in
theorem more_b3 (s : ByteArray) (z : Int) (b : UInt8) (hb : z = b.toNat) (_l0 : 48 ≤ z) (_l1 : z ≤ 57) (_h : (s.size : Int) ≤ 2000) (hz : 0 < s.size) (hw : wordL s.data.toList = false) (ht : tagL s.data.toList = true)
    (hw' : wordL (s ++ ⟨#[b]⟩).data.toList = false) (ht' : tagL (s ++ ⟨#[b]⟩).data.toList = true) (w : World) (hT : Tabs w) :
    Calls Tryd.prog 8 #[.string s, .int .u8 z] w fun e w' => e = .returned (.bool true) ∧ Below w.heap.size w w' := by
  have HT := Lib.hid hT
  have HW := Lib.hid hw
  have HG := Lib.hid ht
  have HW' := Lib.hid hw'
  have HG' := Lib.hid ht'
  have hcv := conv_one' w z b hb
  have hzi : (0 : Int) < (s.size : Int) := by omega
  have e0 : decide (97 ≤ z) = false := by simp; omega
  have e1 : decide (z ≤ 122) = true := by simp; omega
  have e2 : decide (65 ≤ z) = false := by simp; omega
  have e3 : decide (z ≤ 90) = true := by simp; omega
  have e4 : decide (48 ≤ z) = true := by simp; omega
  have e5 : decide (z ≤ 57) = true := by simp; omega
  have e6 : (z == 95) = false := by rw [beq_eq_false_iff_ne]; omega
  have hsb : (ByteArray.mk #[b]).size = 1 := rfl
  clear hT hw ht hw' ht' hb
  go_enter Tryd.func8, Tryd.ntmps8
  go_wp2_with fail
  refine (IsWord_is s _ HW.out _).mono ?_
  rintro e w1 ⟨rfl, b1⟩
  have c1 := ((Below.refl w.heap.size w).alloc (Nat.le_refl _) (.cells #[.int .u8 z] 5)).trans (b1.mono (by simp))
  clear b1 hcv
  dsimp only
  repeat (first | go_values | go_skip | go_guarded | go_step | go_upon | go_back)
  refine (IsTag_is s _ HG.out _).mono ?_
  rintro e w2 ⟨rfl, b2⟩
  have c2 := c1.trans (b2.mono c1.size)
  clear b2 c1
  dsimp only
  repeat (first | go_values | go_skip | go_guarded | go_step | go_upon | go_back)
  have q2 := IsWord_is (s ++ ⟨#[b]⟩) _ HW'.out w2
  refine Calls.mono q2 ?_
  clear q2
  rintro e w3 ⟨rfl, b3⟩
  have c3 := c2.trans (b3.mono c2.size)
  clear b3 c2
  dsimp only
  repeat (first | go_values | go_skip | go_guarded | go_step | go_upon | go_back)
  have q3 := IsTag_is (s ++ ⟨#[b]⟩) _ HG'.out w3
  refine Calls.mono q3 ?_
  clear q3
  rintro e w4 ⟨rfl, b4⟩
  have c4 := c3.trans (b4.mono c3.size)
  clear b4 c3
  dsimp only
  repeat (first | go_values | go_skip | go_guarded | go_step | go_upon | go_back)
  refine (alive _ (Utf8Tabs_below HT.out c4)).mono ?_
  rintro e w5 ⟨rfl, b5⟩
  have c5 := c4.trans (b5.mono c4.size)
  clear b5 c4
  dsimp only
  repeat (first | go_values | go_skip | go_guarded | go_step | go_upon | go_back)
  go_ret
  exact ⟨rfl, c5⟩

set_option maxHeartbeats 2000000 in
set_option maxRecDepth 100000 in
theorem more_c0 (s : ByteArray) (z : Int) (b : UInt8) (hb : z = b.toNat) (_l0 : 58 ≤ z) (_l1 : z ≤ 64) (_h : (s.size : Int) ≤ 2000) (hz : s.size = 0) (hw : wordL s.data.toList = false) (ht : tagL s.data.toList = false)
    (hw' : wordL (s ++ ⟨#[b]⟩).data.toList = false) (ht' : tagL (s ++ ⟨#[b]⟩).data.toList = false) (w : World) (hT : Tabs w) :
    Calls Tryd.prog 8 #[.string s, .int .u8 z] w fun e w' => e = .returned (.bool true) ∧ Below w.heap.size w w' := by
  have HT := Lib.hid hT
  have HW := Lib.hid hw
  have HG := Lib.hid ht
  have HW' := Lib.hid hw'
  have HG' := Lib.hid ht'
  have hcv := conv_one' w z b hb
  have hzi : ((s.size : Int)) = 0 := by omega
  have e0 : decide (97 ≤ z) = false := by simp; omega
  have e1 : decide (z ≤ 122) = true := by simp; omega
  have e2 : decide (65 ≤ z) = false := by simp; omega
  have e3 : decide (z ≤ 90) = true := by simp; omega
  have e4 : decide (48 ≤ z) = true := by simp; omega
  have e5 : decide (z ≤ 57) = false := by simp; omega
  have e6 : (z == 95) = false := by rw [beq_eq_false_iff_ne]; omega
  have hsb : (ByteArray.mk #[b]).size = 1 := rfl
  clear hT hw ht hw' ht' hb
  go_enter Tryd.func8, Tryd.ntmps8
  go_wp2_with fail
  refine (IsWord_is s _ HW.out _).mono ?_
  rintro e w1 ⟨rfl, b1⟩
  have c1 := ((Below.refl w.heap.size w).alloc (Nat.le_refl _) (.cells #[.int .u8 z] 5)).trans (b1.mono (by simp))
  clear b1 hcv
  dsimp only
  repeat (first | go_values | go_skip | go_guarded | go_step | go_upon | go_back)
  refine (IsTag_is s _ HG.out _).mono ?_
  rintro e w2 ⟨rfl, b2⟩
  have c2 := c1.trans (b2.mono c1.size)
  clear b2 c1
  dsimp only
  repeat (first | go_values | go_skip | go_guarded | go_step | go_upon | go_back)
  refine (alive _ (Utf8Tabs_below HT.out c2)).mono ?_
  rintro e w3 ⟨rfl, b3⟩
  have c3 := c2.trans (b3.mono c2.size)
  clear b3 c2
  dsimp only
  repeat (first | go_values | go_skip | go_guarded | go_step | go_upon | go_back)
  have q3 := IsWord_is (s ++ ⟨#[b]⟩) _ HW'.out w3
  refine Calls.mono q3 ?_
  clear q3
  rintro e w4 ⟨rfl, b4⟩
  have c4 := c3.trans (b4.mono c3.size)
  clear b4 c3
  dsimp only
  repeat (first | go_values | go_skip | go_guarded | go_step | go_upon | go_back)
  have q4 := IsTag_is (s ++ ⟨#[b]⟩) _ HG'.out w4
  refine Calls.mono q4 ?_
  clear q4
  rintro e w5 ⟨rfl, b5⟩
  have c5 := c4.trans (b5.mono c4.size)
  clear b5 c4
  dsimp only
  repeat (first | go_values | go_skip | go_guarded | go_step | go_upon | go_back)
  go_ret
  exact ⟨rfl, c5⟩

set_option maxHeartbeats 2000000 in
set_option maxRecDepth 100000 in
theorem more_c1 (s : ByteArray) (z : Int) (b : UInt8) (hb : z = b.toNat) (_l0 : 58 ≤ z) (_l1 : z ≤ 64) (_h : (s.size : Int) ≤ 2000) (hz : 0 < s.size) (hw : wordL s.data.toList = false) (ht : tagL s.data.toList = false)
    (hw' : wordL (s ++ ⟨#[b]⟩).data.toList = false) (ht' : tagL (s ++ ⟨#[b]⟩).data.toList = false) (w : World) (hT : Tabs w) :
    Calls Tryd.prog 8 #[.string s, .int .u8 z] w fun e w' => e = .returned (.bool true) ∧ Below w.heap.size w w' := by
  have HT := Lib.hid hT
  have HW := Lib.hid hw
  have HG := Lib.hid ht
  have HW' := Lib.hid hw'
  have HG' := Lib.hid ht'
  have hcv := conv_one' w z b hb
  have hzi : (0 : Int) < (s.size : Int) := by omega
  have e0 : decide (97 ≤ z) = false := by simp; omega
  have e1 : decide (z ≤ 122) = true := by simp; omega
  have e2 : decide (65 ≤ z) = false := by simp; omega
  have e3 : decide (z ≤ 90) = true := by simp; omega
  have e4 : decide (48 ≤ z) = true := by simp; omega
  have e5 : decide (z ≤ 57) = false := by simp; omega
  have e6 : (z == 95) = false := by rw [beq_eq_false_iff_ne]; omega
  have hsb : (ByteArray.mk #[b]).size = 1 := rfl
  clear hT hw ht hw' ht' hb
  go_enter Tryd.func8, Tryd.ntmps8
  go_wp2_with fail
  refine (IsWord_is s _ HW.out _).mono ?_
  rintro e w1 ⟨rfl, b1⟩
  have c1 := ((Below.refl w.heap.size w).alloc (Nat.le_refl _) (.cells #[.int .u8 z] 5)).trans (b1.mono (by simp))
  clear b1 hcv
  dsimp only
  repeat (first | go_values | go_skip | go_guarded | go_step | go_upon | go_back)
  refine (IsTag_is s _ HG.out _).mono ?_
  rintro e w2 ⟨rfl, b2⟩
  have c2 := c1.trans (b2.mono c1.size)
  clear b2 c1
  dsimp only
  repeat (first | go_values | go_skip | go_guarded | go_step | go_upon | go_back)
  have q2 := IsWord_is (s ++ ⟨#[b]⟩) _ HW'.out w2
  refine Calls.mono q2 ?_
  clear q2
  rintro e w3 ⟨rfl, b3⟩
  have c3 := c2.trans (b3.mono c2.size)
  clear b3 c2
  dsimp only
  repeat (first | go_values | go_skip | go_guarded | go_step | go_upon | go_back)
  have q3 := IsTag_is (s ++ ⟨#[b]⟩) _ HG'.out w3
  refine Calls.mono q3 ?_
  clear q3
  rintro e w4 ⟨rfl, b4⟩
  have c4 := c3.trans (b4.mono c3.size)
  clear b4 c3
  dsimp only
  repeat (first | go_values | go_skip | go_guarded | go_step | go_upon | go_back)
  refine (alive _ (Utf8Tabs_below HT.out c4)).mono ?_
  rintro e w5 ⟨rfl, b5⟩
  have c5 := c4.trans (b5.mono c4.size)
  clear b5 c4
  dsimp only
  repeat (first | go_values | go_skip | go_guarded | go_step | go_upon | go_back)
  go_ret
  exact ⟨rfl, c5⟩

set_option maxHeartbeats 2000000 in
set_option maxRecDepth 100000 in
theorem more_c2 (s : ByteArray) (z : Int) (b : UInt8) (hb : z = b.toNat) (_l0 : 58 ≤ z) (_l1 : z ≤ 64) (_h : (s.size : Int) ≤ 2000) (hz : 0 < s.size) (hw : wordL s.data.toList = true) (ht : tagL s.data.toList = false)
    (hw' : wordL (s ++ ⟨#[b]⟩).data.toList = false) (ht' : tagL (s ++ ⟨#[b]⟩).data.toList = false) (w : World) (hT : Tabs w) :
    Calls Tryd.prog 8 #[.string s, .int .u8 z] w fun e w' => e = .returned (.bool true) ∧ Below w.heap.size w w' := by
  have HT := Lib.hid hT
  have HW := Lib.hid hw
  have HG := Lib.hid ht
  have HW' := Lib.hid hw'
  have HG' := Lib.hid ht'
  have hcv := conv_one' w z b hb
  have hzi : (0 : Int) < (s.size : Int) := by omega
  have e0 : decide (97 ≤ z) = false := by simp; omega
  have e1 : decide (z ≤ 122) = true := by simp; omega
  have e2 : decide (65 ≤ z) = false := by simp; omega
  have e3 : decide (z ≤ 90) = true := by simp; omega
  have e4 : decide (48 ≤ z) = true := by simp; omega
  have e5 : decide (z ≤ 57) = false := by simp; omega
  have e6 : (z == 95) = false := by rw [beq_eq_false_iff_ne]; omega
  have hsb : (ByteArray.mk #[b]).size = 1 := rfl
  clear hT hw ht hw' ht' hb
  go_enter Tryd.func8, Tryd.ntmps8
  go_wp2_with fail
  refine (IsWord_is s _ HW.out _).mono ?_
  rintro e w1 ⟨rfl, b1⟩
  have c1 := ((Below.refl w.heap.size w).alloc (Nat.le_refl _) (.cells #[.int .u8 z] 5)).trans (b1.mono (by simp))
  clear b1 hcv
  dsimp only
  repeat (first | go_values | go_skip | go_guarded | go_step | go_upon | go_back)
  refine (IsTag_is s _ HG.out _).mono ?_
  rintro e w2 ⟨rfl, b2⟩
  have c2 := c1.trans (b2.mono c1.size)
  clear b2 c1
  dsimp only
  repeat (first | go_values | go_skip | go_guarded | go_step | go_upon | go_back)
  have q2 := IsWord_is (s ++ ⟨#[b]⟩) _ HW'.out w2
  refine Calls.mono q2 ?_
  clear q2
  rintro e w3 ⟨rfl, b3⟩
  have c3 := c2.trans (b3.mono c2.size)
  clear b3 c2
  dsimp only
  repeat (first | go_values | go_skip | go_guarded | go_step | go_upon | go_back)
  have q3 := IsTag_is (s ++ ⟨#[b]⟩) _ HG'.out w3
  refine Calls.mono q3 ?_
  clear q3
  rintro e w4 ⟨rfl, b4⟩
  have c4 := c3.trans (b4.mono c3.size)
  clear b4 c3
  dsimp only
  repeat (first | go_values | go_skip | go_guarded | go_step | go_upon | go_back)
  refine (alive _ (Utf8Tabs_below HT.out c4)).mono ?_
  rintro e w5 ⟨rfl, b5⟩
  have c5 := c4.trans (b5.mono c4.size)
  clear b5 c4
  dsimp only
  repeat (first | go_values | go_skip | go_guarded | go_step | go_upon | go_back)
  go_ret
  exact ⟨rfl, c5⟩

set_option maxHeartbeats 2000000 in
set_option maxRecDepth 100000 in
theorem more_c3 (s : ByteArray) (z : Int) (b : UInt8) (hb : z = b.toNat) (_l0 : 58 ≤ z) (_l1 : z ≤ 64) (_h : (s.size : Int) ≤ 2000) (hz : 0 < s.size) (hw : wordL s.data.toList = false) (ht : tagL s.data.toList = true)
    (hw' : wordL (s ++ ⟨#[b]⟩).data.toList = false) (ht' : tagL (s ++ ⟨#[b]⟩).data.toList = false) (w : World) (hT : Tabs w) :
    Calls Tryd.prog 8 #[.string s, .int .u8 z] w fun e w' => e = .returned (.bool true) ∧ Below w.heap.size w w' := by
  have HT := Lib.hid hT
  have HW := Lib.hid hw
  have HG := Lib.hid ht
  have HW' := Lib.hid hw'
  have HG' := Lib.hid ht'
  have hcv := conv_one' w z b hb
  have hzi : (0 : Int) < (s.size : Int) := by omega
  have e0 : decide (97 ≤ z) = false := by simp; omega
  have e1 : decide (z ≤ 122) = true := by simp; omega
  have e2 : decide (65 ≤ z) = false := by simp; omega
  have e3 : decide (z ≤ 90) = true := by simp; omega
  have e4 : decide (48 ≤ z) = true := by simp; omega
  have e5 : decide (z ≤ 57) = false := by simp; omega
  have e6 : (z == 95) = false := by rw [beq_eq_false_iff_ne]; omega
  have hsb : (ByteArray.mk #[b]).size = 1 := rfl
  clear hT hw ht hw' ht' hb
  go_enter Tryd.func8, Tryd.ntmps8
  go_wp2_with fail
  refine (IsWord_is s _ HW.out _).mono ?_
  rintro e w1 ⟨rfl, b1⟩
  have c1 := ((Below.refl w.heap.size w).alloc (Nat.le_refl _) (.cells #[.int .u8 z] 5)).trans (b1.mono (by simp))
  clear b1 hcv
  dsimp only
  repeat (first | go_values | go_skip | go_guarded | go_step | go_upon | go_back)
  refine (IsTag_is s _ HG.out _).mono ?_
  rintro e w2 ⟨rfl, b2⟩
  have c2 := c1.trans (b2.mono c1.size)
  clear b2 c1
  dsimp only
  repeat (first | go_values | go_skip | go_guarded | go_step | go_upon | go_back)
  have q2 := IsWord_is (s ++ ⟨#[b]⟩) _ HW'.out w2
  refine Calls.mono q2 ?_
  clear q2
  rintro e w3 ⟨rfl, b3⟩
  have c3 := c2.trans (b3.mono c2.size)
  clear b3 c2
  dsimp only
  repeat (first | go_values | go_skip | go_guarded | go_step | go_upon | go_back)
  have q3 := IsTag_is (s ++ ⟨#[b]⟩) _ HG'.out w3
  refine Calls.mono q3 ?_
  clear q3
  rintro e w4 ⟨rfl, b4⟩
  have c4 := c3.trans (b4.mono c3.size)
  clear b4 c3
  dsimp only
  repeat (first | go_values | go_skip | go_guarded | go_step | go_upon | go_back)
  refine (alive _ (Utf8Tabs_below HT.out c4)).mono ?_
  rintro e w5 ⟨rfl, b5⟩
  have c5 := c4.trans (b5.mono c4.size)
  clear b5 c4
  dsimp only
  repeat (first | go_values | go_skip | go_guarded | go_step | go_upon | go_back)
  go_ret
  exact ⟨rfl, c5⟩
end Glw
end Go.Proofs.YtjjkbfjahljeeaaDoor
