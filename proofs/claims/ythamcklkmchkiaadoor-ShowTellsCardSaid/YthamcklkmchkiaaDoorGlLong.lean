/-
  DERIVED. THE REFERENCE's 'Long', WALKED: how many bytes the rune at a place of a text has. The cases are printed by program (wip/gen_long.py).
-/
import Derived.Test.YthamcklkmchkiaaDoorGlSmall
namespace Go.Proofs.YthamcklkmchkiaaDoor
open Go.RowKit
namespace Glw
open Gl

theorem longL_drop (s : ByteArray) (k : Nat) (h : k < s.size) : longL (s.data.toList.drop k) =
    if (s.get! k).toNat < 128 then 1
    else if (inB (s.get! k).toNat 194 223 && contB s.data.toList (k + 1) 128 191) = true then 2
    else if (inB (s.get! k).toNat 224 239 && contB s.data.toList (k + 1) (if (s.get! k).toNat = 224 then 160 else 128) (if (s.get! k).toNat = 237 then 159 else 191) && contB s.data.toList (k + 2) 128 191) = true then 3
    else if (inB (s.get! k).toNat 240 244 && contB s.data.toList (k + 1) (if (s.get! k).toNat = 240 then 144 else 128) (if (s.get! k).toNat = 244 then 143 else 191) && contB s.data.toList (k + 2) 128 191 && contB s.data.toList (k + 3) 128 191) = true then 4
    else 0 := by
  have hd := drop_cons s k h
  have e : longL (s.data.toList.drop k) = longL (s.get! k :: s.data.toList.drop (k + 1)) := by rw [hd]
  rw [e, longL_cons]
  unfold twoB threeB fourB
  rw [← hd]
  simp only [contB_drop]

theorem contI (s : ByteArray) (i : Int) (a b : Int) (w : World) (hs : s.size ≤ 35184372088832) (h0 : 0 ≤ i) :
    Calls Tryd.prog 66 #[.string s, .int .i64 i, .int .u8 a, .int .u8 b] w fun e w' => e = .returned (.bool (contB s.data.toList i.toNat a b)) ∧ w = w' := by
  obtain ⟨k, rfl⟩ := Int.eq_ofNat_of_zero_le h0
  rw [Int.toNat_natCast]
  exact cont s k a b w (by unfold maxLen; omega)
theorem inB_yes {c a b : Int} (h : a ≤ c ∧ c ≤ b) : inB c a b = true := (inB_iff c a b).2 h
theorem inB_no {c a b : Int} (h : c < a ∨ b < c) : inB c a b = false := by rw [← Bool.not_eq_true, inB_iff]; omega

set_option maxHeartbeats 1000000 in
set_option maxRecDepth 100000 in
theorem long_a (s : ByteArray) (k : Nat) (w : World) (hs : s.size ≤ 35184372088832) (h : k < s.size) (c : Nat) (l0 : 0 ≤ c) (l1 : c ≤ 127) (hgt : (s[k]'h).toNat = c) :
    Calls Tryd.prog 45 #[.string s, .int .i64 k] w fun e w' => e = .returned (.int .i64 1) ∧ w = w' := by
  have C := fun (i a b : Int) w => contI s i a b w hs
  have C' := Lib.hid C
  clear C
  have i194 : inB ((c : Nat) : Int) 194 223 = false := inB_no (by omega)
  have i224 : inB ((c : Nat) : Int) 224 239 = false := inB_no (by omega)
  have i240 : inB ((c : Nat) : Int) 240 244 = false := inB_no (by omega)
  go_enter Tryd.func45, Tryd.ntmps45
  go_wp2_with (first | (go_at_call 65; refine (within _ _ _ _).mono ?_; rintro e w' ⟨rfl, rfl⟩) | (go_at_call 66; refine (C'.out _ _ _ _ (by omega)).mono ?_; rintro e w' ⟨rfl, rfl⟩))
  all_goals (go_ret; exact ⟨rfl, rfl⟩)

set_option maxHeartbeats 1000000 in
set_option maxRecDepth 100000 in
theorem long_b (s : ByteArray) (k : Nat) (w : World) (hs : s.size ≤ 35184372088832) (h : k < s.size) (c : Nat) (l0 : 128 ≤ c) (l1 : c ≤ 193) (hgt : (s[k]'h).toNat = c) :
    Calls Tryd.prog 45 #[.string s, .int .i64 k] w fun e w' => e = .returned (.int .i64 0) ∧ w = w' := by
  have C := fun (i a b : Int) w => contI s i a b w hs
  have C' := Lib.hid C
  clear C
  have i194 : inB ((c : Nat) : Int) 194 223 = false := inB_no (by omega)
  have i224 : inB ((c : Nat) : Int) 224 239 = false := inB_no (by omega)
  have i240 : inB ((c : Nat) : Int) 240 244 = false := inB_no (by omega)
  go_enter Tryd.func45, Tryd.ntmps45
  go_wp2_with (first | (go_at_call 65; refine (within _ _ _ _).mono ?_; rintro e w' ⟨rfl, rfl⟩) | (go_at_call 66; refine (C'.out _ _ _ _ (by omega)).mono ?_; rintro e w' ⟨rfl, rfl⟩))
  all_goals (go_ret; exact ⟨rfl, rfl⟩)

set_option maxHeartbeats 1000000 in
set_option maxRecDepth 100000 in
theorem long_c (s : ByteArray) (k : Nat) (w : World) (hs : s.size ≤ 35184372088832) (h : k < s.size) (c : Nat) (l0 : 245 ≤ c) (l1 : c ≤ 255) (hgt : (s[k]'h).toNat = c) :
    Calls Tryd.prog 45 #[.string s, .int .i64 k] w fun e w' => e = .returned (.int .i64 0) ∧ w = w' := by
  have C := fun (i a b : Int) w => contI s i a b w hs
  have C' := Lib.hid C
  clear C
  have i194 : inB ((c : Nat) : Int) 194 223 = false := inB_no (by omega)
  have i224 : inB ((c : Nat) : Int) 224 239 = false := inB_no (by omega)
  have i240 : inB ((c : Nat) : Int) 240 244 = false := inB_no (by omega)
  go_enter Tryd.func45, Tryd.ntmps45
  go_wp2_with (first | (go_at_call 65; refine (within _ _ _ _).mono ?_; rintro e w' ⟨rfl, rfl⟩) | (go_at_call 66; refine (C'.out _ _ _ _ (by omega)).mono ?_; rintro e w' ⟨rfl, rfl⟩))
  all_goals (go_ret; exact ⟨rfl, rfl⟩)

set_option maxHeartbeats 1000000 in
set_option maxRecDepth 100000 in
theorem long_d1 (s : ByteArray) (k : Nat) (w : World) (hs : s.size ≤ 35184372088832) (h : k < s.size) (c : Nat) (l0 : 194 ≤ c) (l1 : c ≤ 223) (hgt : (s[k]'h).toNat = c) (x1 : contB s.data.toList (k + 1) 128 191 = true) :
    Calls Tryd.prog 45 #[.string s, .int .i64 k] w fun e w' => e = .returned (.int .i64 2) ∧ w = w' := by
  have C := fun (i a b : Int) w => contI s i a b w hs
  have C' := Lib.hid C
  clear C
  have i194 : inB ((c : Nat) : Int) 194 223 = true := inB_yes (by omega)
  have i224 : inB ((c : Nat) : Int) 224 239 = false := inB_no (by omega)
  have i240 : inB ((c : Nat) : Int) 240 244 = false := inB_no (by omega)
  have y1 : contB s.data.toList ((k : Int) + 1).toNat 128 191 = true := by rw [show ((k : Int) + 1).toNat = k + 1 from by omega]; exact x1
  go_enter Tryd.func45, Tryd.ntmps45
  go_wp2_with (first | (go_at_call 65; refine (within _ _ _ _).mono ?_; rintro e w' ⟨rfl, rfl⟩) | (go_at_call 66; refine (C'.out _ _ _ _ (by omega)).mono ?_; rintro e w' ⟨rfl, rfl⟩))
  all_goals (go_ret; exact ⟨rfl, rfl⟩)

set_option maxHeartbeats 1000000 in
set_option maxRecDepth 100000 in
theorem long_d0 (s : ByteArray) (k : Nat) (w : World) (hs : s.size ≤ 35184372088832) (h : k < s.size) (c : Nat) (l0 : 194 ≤ c) (l1 : c ≤ 223) (hgt : (s[k]'h).toNat = c) (x1 : contB s.data.toList (k + 1) 128 191 = false) :
    Calls Tryd.prog 45 #[.string s, .int .i64 k] w fun e w' => e = .returned (.int .i64 0) ∧ w = w' := by
  have C := fun (i a b : Int) w => contI s i a b w hs
  have C' := Lib.hid C
  clear C
  have i194 : inB ((c : Nat) : Int) 194 223 = true := inB_yes (by omega)
  have i224 : inB ((c : Nat) : Int) 224 239 = false := inB_no (by omega)
  have i240 : inB ((c : Nat) : Int) 240 244 = false := inB_no (by omega)
  have y1 : contB s.data.toList ((k : Int) + 1).toNat 128 191 = false := by rw [show ((k : Int) + 1).toNat = k + 1 from by omega]; exact x1
  go_enter Tryd.func45, Tryd.ntmps45
  go_wp2_with (first | (go_at_call 65; refine (within _ _ _ _).mono ?_; rintro e w' ⟨rfl, rfl⟩) | (go_at_call 66; refine (C'.out _ _ _ _ (by omega)).mono ?_; rintro e w' ⟨rfl, rfl⟩))
  all_goals (go_ret; exact ⟨rfl, rfl⟩)

set_option maxHeartbeats 1000000 in
set_option maxRecDepth 100000 in
theorem long_e0 (s : ByteArray) (k : Nat) (w : World) (hs : s.size ≤ 35184372088832) (h : k < s.size) (hgt : (s[k]'h).toNat = 224) (x1 : contB s.data.toList (k + 1) 160 191 = false) :
    Calls Tryd.prog 45 #[.string s, .int .i64 k] w fun e w' => e = .returned (.int .i64 0) ∧ w = w' := by
  have C := fun (i a b : Int) w => contI s i a b w hs
  have C' := Lib.hid C
  clear C
  have i194 : inB (224 : Int) 194 223 = false := inB_no (by omega)
  have i224 : inB (224 : Int) 224 239 = true := inB_yes (by omega)
  have i240 : inB (224 : Int) 240 244 = false := inB_no (by omega)
  have y1 : contB s.data.toList ((k : Int) + 1).toNat 160 191 = false := by rw [show ((k : Int) + 1).toNat = k + 1 from by omega]; exact x1
  go_enter Tryd.func45, Tryd.ntmps45
  go_wp2_with (first | (go_at_call 65; refine (within _ _ _ _).mono ?_; rintro e w' ⟨rfl, rfl⟩) | (go_at_call 66; refine (C'.out _ _ _ _ (by omega)).mono ?_; rintro e w' ⟨rfl, rfl⟩))
  all_goals (go_ret; exact ⟨rfl, rfl⟩)

set_option maxHeartbeats 1000000 in
set_option maxRecDepth 100000 in
theorem long_e1 (s : ByteArray) (k : Nat) (w : World) (hs : s.size ≤ 35184372088832) (h : k < s.size) (hgt : (s[k]'h).toNat = 224) (x1 : contB s.data.toList (k + 1) 160 191 = true) (x2 : contB s.data.toList (k + 2) 128 191 = false) :
    Calls Tryd.prog 45 #[.string s, .int .i64 k] w fun e w' => e = .returned (.int .i64 0) ∧ w = w' := by
  have C := fun (i a b : Int) w => contI s i a b w hs
  have C' := Lib.hid C
  clear C
  have i194 : inB (224 : Int) 194 223 = false := inB_no (by omega)
  have i224 : inB (224 : Int) 224 239 = true := inB_yes (by omega)
  have i240 : inB (224 : Int) 240 244 = false := inB_no (by omega)
  have y1 : contB s.data.toList ((k : Int) + 1).toNat 160 191 = true := by rw [show ((k : Int) + 1).toNat = k + 1 from by omega]; exact x1
  have y2 : contB s.data.toList ((k : Int) + 2).toNat 128 191 = false := by rw [show ((k : Int) + 2).toNat = k + 2 from by omega]; exact x2
  go_enter Tryd.func45, Tryd.ntmps45
  go_wp2_with (first | (go_at_call 65; refine (within _ _ _ _).mono ?_; rintro e w' ⟨rfl, rfl⟩) | (go_at_call 66; refine (C'.out _ _ _ _ (by omega)).mono ?_; rintro e w' ⟨rfl, rfl⟩))
  all_goals (go_ret; exact ⟨rfl, rfl⟩)

set_option maxHeartbeats 1000000 in
set_option maxRecDepth 100000 in
theorem long_e2 (s : ByteArray) (k : Nat) (w : World) (hs : s.size ≤ 35184372088832) (h : k < s.size) (hgt : (s[k]'h).toNat = 224) (x1 : contB s.data.toList (k + 1) 160 191 = true) (x2 : contB s.data.toList (k + 2) 128 191 = true) :
    Calls Tryd.prog 45 #[.string s, .int .i64 k] w fun e w' => e = .returned (.int .i64 3) ∧ w = w' := by
  have C := fun (i a b : Int) w => contI s i a b w hs
  have C' := Lib.hid C
  clear C
  have i194 : inB (224 : Int) 194 223 = false := inB_no (by omega)
  have i224 : inB (224 : Int) 224 239 = true := inB_yes (by omega)
  have i240 : inB (224 : Int) 240 244 = false := inB_no (by omega)
  have y1 : contB s.data.toList ((k : Int) + 1).toNat 160 191 = true := by rw [show ((k : Int) + 1).toNat = k + 1 from by omega]; exact x1
  have y2 : contB s.data.toList ((k : Int) + 2).toNat 128 191 = true := by rw [show ((k : Int) + 2).toNat = k + 2 from by omega]; exact x2
  go_enter Tryd.func45, Tryd.ntmps45
  go_wp2_with (first | (go_at_call 65; refine (within _ _ _ _).mono ?_; rintro e w' ⟨rfl, rfl⟩) | (go_at_call 66; refine (C'.out _ _ _ _ (by omega)).mono ?_; rintro e w' ⟨rfl, rfl⟩))
  all_goals (go_ret; exact ⟨rfl, rfl⟩)

set_option maxHeartbeats 1000000 in
set_option maxRecDepth 100000 in
theorem long_f0 (s : ByteArray) (k : Nat) (w : World) (hs : s.size ≤ 35184372088832) (h : k < s.size) (hgt : (s[k]'h).toNat = 237) (x1 : contB s.data.toList (k + 1) 128 159 = false) :
    Calls Tryd.prog 45 #[.string s, .int .i64 k] w fun e w' => e = .returned (.int .i64 0) ∧ w = w' := by
  have C := fun (i a b : Int) w => contI s i a b w hs
  have C' := Lib.hid C
  clear C
  have i194 : inB (237 : Int) 194 223 = false := inB_no (by omega)
  have i224 : inB (237 : Int) 224 239 = true := inB_yes (by omega)
  have i240 : inB (237 : Int) 240 244 = false := inB_no (by omega)
  have y1 : contB s.data.toList ((k : Int) + 1).toNat 128 159 = false := by rw [show ((k : Int) + 1).toNat = k + 1 from by omega]; exact x1
  go_enter Tryd.func45, Tryd.ntmps45
  go_wp2_with (first | (go_at_call 65; refine (within _ _ _ _).mono ?_; rintro e w' ⟨rfl, rfl⟩) | (go_at_call 66; refine (C'.out _ _ _ _ (by omega)).mono ?_; rintro e w' ⟨rfl, rfl⟩))
  all_goals (go_ret; exact ⟨rfl, rfl⟩)

set_option maxHeartbeats 1000000 in
set_option maxRecDepth 100000 in
theorem long_f1 (s : ByteArray) (k : Nat) (w : World) (hs : s.size ≤ 35184372088832) (h : k < s.size) (hgt : (s[k]'h).toNat = 237) (x1 : contB s.data.toList (k + 1) 128 159 = true) (x2 : contB s.data.toList (k + 2) 128 191 = false) :
    Calls Tryd.prog 45 #[.string s, .int .i64 k] w fun e w' => e = .returned (.int .i64 0) ∧ w = w' := by
  have C := fun (i a b : Int) w => contI s i a b w hs
  have C' := Lib.hid C
  clear C
  have i194 : inB (237 : Int) 194 223 = false := inB_no (by omega)
  have i224 : inB (237 : Int) 224 239 = true := inB_yes (by omega)
  have i240 : inB (237 : Int) 240 244 = false := inB_no (by omega)
  have y1 : contB s.data.toList ((k : Int) + 1).toNat 128 159 = true := by rw [show ((k : Int) + 1).toNat = k + 1 from by omega]; exact x1
  have y2 : contB s.data.toList ((k : Int) + 2).toNat 128 191 = false := by rw [show ((k : Int) + 2).toNat = k + 2 from by omega]; exact x2
  go_enter Tryd.func45, Tryd.ntmps45
  go_wp2_with (first | (go_at_call 65; refine (within _ _ _ _).mono ?_; rintro e w' ⟨rfl, rfl⟩) | (go_at_call 66; refine (C'.out _ _ _ _ (by omega)).mono ?_; rintro e w' ⟨rfl, rfl⟩))
  all_goals (go_ret; exact ⟨rfl, rfl⟩)

set_option maxHeartbeats 1000000 in
set_option maxRecDepth 100000 in
theorem long_f2 (s : ByteArray) (k : Nat) (w : World) (hs : s.size ≤ 35184372088832) (h : k < s.size) (hgt : (s[k]'h).toNat = 237) (x1 : contB s.data.toList (k + 1) 128 159 = true) (x2 : contB s.data.toList (k + 2) 128 191 = true) :
    Calls Tryd.prog 45 #[.string s, .int .i64 k] w fun e w' => e = .returned (.int .i64 3) ∧ w = w' := by
  have C := fun (i a b : Int) w => contI s i a b w hs
  have C' := Lib.hid C
  clear C
  have i194 : inB (237 : Int) 194 223 = false := inB_no (by omega)
  have i224 : inB (237 : Int) 224 239 = true := inB_yes (by omega)
  have i240 : inB (237 : Int) 240 244 = false := inB_no (by omega)
  have y1 : contB s.data.toList ((k : Int) + 1).toNat 128 159 = true := by rw [show ((k : Int) + 1).toNat = k + 1 from by omega]; exact x1
  have y2 : contB s.data.toList ((k : Int) + 2).toNat 128 191 = true := by rw [show ((k : Int) + 2).toNat = k + 2 from by omega]; exact x2
  go_enter Tryd.func45, Tryd.ntmps45
  go_wp2_with (first | (go_at_call 65; refine (within _ _ _ _).mono ?_; rintro e w' ⟨rfl, rfl⟩) | (go_at_call 66; refine (C'.out _ _ _ _ (by omega)).mono ?_; rintro e w' ⟨rfl, rfl⟩))
  all_goals (go_ret; exact ⟨rfl, rfl⟩)

set_option maxHeartbeats 1000000 in
set_option maxRecDepth 100000 in
theorem long_g0 (s : ByteArray) (k : Nat) (w : World) (hs : s.size ≤ 35184372088832) (h : k < s.size) (c : Nat) (l0 : 225 ≤ c) (l1 : c ≤ 236) (hgt : (s[k]'h).toNat = c) (x1 : contB s.data.toList (k + 1) 128 191 = false) :
    Calls Tryd.prog 45 #[.string s, .int .i64 k] w fun e w' => e = .returned (.int .i64 0) ∧ w = w' := by
  have C := fun (i a b : Int) w => contI s i a b w hs
  have C' := Lib.hid C
  clear C
  have i194 : inB ((c : Nat) : Int) 194 223 = false := inB_no (by omega)
  have i224 : inB ((c : Nat) : Int) 224 239 = true := inB_yes (by omega)
  have i240 : inB ((c : Nat) : Int) 240 244 = false := inB_no (by omega)
  have y1 : contB s.data.toList ((k : Int) + 1).toNat 128 191 = false := by rw [show ((k : Int) + 1).toNat = k + 1 from by omega]; exact x1
  go_enter Tryd.func45, Tryd.ntmps45
  go_wp2_with (first | (go_at_call 65; refine (within _ _ _ _).mono ?_; rintro e w' ⟨rfl, rfl⟩) | (go_at_call 66; refine (C'.out _ _ _ _ (by omega)).mono ?_; rintro e w' ⟨rfl, rfl⟩))
  all_goals (go_ret; exact ⟨rfl, rfl⟩)

set_option maxHeartbeats 1000000 in
set_option maxRecDepth 100000 in
theorem long_g1 (s : ByteArray) (k : Nat) (w : World) (hs : s.size ≤ 35184372088832) (h : k < s.size) (c : Nat) (l0 : 225 ≤ c) (l1 : c ≤ 236) (hgt : (s[k]'h).toNat = c) (x1 : contB s.data.toList (k + 1) 128 191 = true) (x2 : contB s.data.toList (k + 2) 128 191 = false) :
    Calls Tryd.prog 45 #[.string s, .int .i64 k] w fun e w' => e = .returned (.int .i64 0) ∧ w = w' := by
  have C := fun (i a b : Int) w => contI s i a b w hs
  have C' := Lib.hid C
  clear C
  have i194 : inB ((c : Nat) : Int) 194 223 = false := inB_no (by omega)
  have i224 : inB ((c : Nat) : Int) 224 239 = true := inB_yes (by omega)
  have i240 : inB ((c : Nat) : Int) 240 244 = false := inB_no (by omega)
  have y1 : contB s.data.toList ((k : Int) + 1).toNat 128 191 = true := by rw [show ((k : Int) + 1).toNat = k + 1 from by omega]; exact x1
  have y2 : contB s.data.toList ((k : Int) + 2).toNat 128 191 = false := by rw [show ((k : Int) + 2).toNat = k + 2 from by omega]; exact x2
  go_enter Tryd.func45, Tryd.ntmps45
  go_wp2_with (first | (go_at_call 65; refine (within _ _ _ _).mono ?_; rintro e w' ⟨rfl, rfl⟩) | (go_at_call 66; refine (C'.out _ _ _ _ (by omega)).mono ?_; rintro e w' ⟨rfl, rfl⟩))
  all_goals (go_ret; exact ⟨rfl, rfl⟩)

set_option maxHeartbeats 1000000 in
set_option maxRecDepth 100000 in
theorem long_g2 (s : ByteArray) (k : Nat) (w : World) (hs : s.size ≤ 35184372088832) (h : k < s.size) (c : Nat) (l0 : 225 ≤ c) (l1 : c ≤ 236) (hgt : (s[k]'h).toNat = c) (x1 : contB s.data.toList (k + 1) 128 191 = true) (x2 : contB s.data.toList (k + 2) 128 191 = true) :
    Calls Tryd.prog 45 #[.string s, .int .i64 k] w fun e w' => e = .returned (.int .i64 3) ∧ w = w' := by
  have C := fun (i a b : Int) w => contI s i a b w hs
  have C' := Lib.hid C
  clear C
  have i194 : inB ((c : Nat) : Int) 194 223 = false := inB_no (by omega)
  have i224 : inB ((c : Nat) : Int) 224 239 = true := inB_yes (by omega)
  have i240 : inB ((c : Nat) : Int) 240 244 = false := inB_no (by omega)
  have y1 : contB s.data.toList ((k : Int) + 1).toNat 128 191 = true := by rw [show ((k : Int) + 1).toNat = k + 1 from by omega]; exact x1
  have y2 : contB s.data.toList ((k : Int) + 2).toNat 128 191 = true := by rw [show ((k : Int) + 2).toNat = k + 2 from by omega]; exact x2
  go_enter Tryd.func45, Tryd.ntmps45
  go_wp2_with (first | (go_at_call 65; refine (within _ _ _ _).mono ?_; rintro e w' ⟨rfl, rfl⟩) | (go_at_call 66; refine (C'.out _ _ _ _ (by omega)).mono ?_; rintro e w' ⟨rfl, rfl⟩))
  all_goals (go_ret; exact ⟨rfl, rfl⟩)

set_option maxHeartbeats 1000000 in
set_option maxRecDepth 100000 in
theorem long_i0 (s : ByteArray) (k : Nat) (w : World) (hs : s.size ≤ 35184372088832) (h : k < s.size) (c : Nat) (l0 : 238 ≤ c) (l1 : c ≤ 239) (hgt : (s[k]'h).toNat = c) (x1 : contB s.data.toList (k + 1) 128 191 = false) :
    Calls Tryd.prog 45 #[.string s, .int .i64 k] w fun e w' => e = .returned (.int .i64 0) ∧ w = w' := by
  have C := fun (i a b : Int) w => contI s i a b w hs
  have C' := Lib.hid C
  clear C
  have i194 : inB ((c : Nat) : Int) 194 223 = false := inB_no (by omega)
  have i224 : inB ((c : Nat) : Int) 224 239 = true := inB_yes (by omega)
  have i240 : inB ((c : Nat) : Int) 240 244 = false := inB_no (by omega)
  have y1 : contB s.data.toList ((k : Int) + 1).toNat 128 191 = false := by rw [show ((k : Int) + 1).toNat = k + 1 from by omega]; exact x1
  go_enter Tryd.func45, Tryd.ntmps45
  go_wp2_with (first | (go_at_call 65; refine (within _ _ _ _).mono ?_; rintro e w' ⟨rfl, rfl⟩) | (go_at_call 66; refine (C'.out _ _ _ _ (by omega)).mono ?_; rintro e w' ⟨rfl, rfl⟩))
  all_goals (go_ret; exact ⟨rfl, rfl⟩)

set_option maxHeartbeats 1000000 in
set_option maxRecDepth 100000 in
theorem long_i1 (s : ByteArray) (k : Nat) (w : World) (hs : s.size ≤ 35184372088832) (h : k < s.size) (c : Nat) (l0 : 238 ≤ c) (l1 : c ≤ 239) (hgt : (s[k]'h).toNat = c) (x1 : contB s.data.toList (k + 1) 128 191 = true) (x2 : contB s.data.toList (k + 2) 128 191 = false) :
    Calls Tryd.prog 45 #[.string s, .int .i64 k] w fun e w' => e = .returned (.int .i64 0) ∧ w = w' := by
  have C := fun (i a b : Int) w => contI s i a b w hs
  have C' := Lib.hid C
  clear C
  have i194 : inB ((c : Nat) : Int) 194 223 = false := inB_no (by omega)
  have i224 : inB ((c : Nat) : Int) 224 239 = true := inB_yes (by omega)
  have i240 : inB ((c : Nat) : Int) 240 244 = false := inB_no (by omega)
  have y1 : contB s.data.toList ((k : Int) + 1).toNat 128 191 = true := by rw [show ((k : Int) + 1).toNat = k + 1 from by omega]; exact x1
  have y2 : contB s.data.toList ((k : Int) + 2).toNat 128 191 = false := by rw [show ((k : Int) + 2).toNat = k + 2 from by omega]; exact x2
  go_enter Tryd.func45, Tryd.ntmps45
  go_wp2_with (first | (go_at_call 65; refine (within _ _ _ _).mono ?_; rintro e w' ⟨rfl, rfl⟩) | (go_at_call 66; refine (C'.out _ _ _ _ (by omega)).mono ?_; rintro e w' ⟨rfl, rfl⟩))
  all_goals (go_ret; exact ⟨rfl, rfl⟩)

set_option maxHeartbeats 1000000 in
set_option maxRecDepth 100000 in
theorem long_i2 (s : ByteArray) (k : Nat) (w : World) (hs : s.size ≤ 35184372088832) (h : k < s.size) (c : Nat) (l0 : 238 ≤ c) (l1 : c ≤ 239) (hgt : (s[k]'h).toNat = c) (x1 : contB s.data.toList (k + 1) 128 191 = true) (x2 : contB s.data.toList (k + 2) 128 191 = true) :
    Calls Tryd.prog 45 #[.string s, .int .i64 k] w fun e w' => e = .returned (.int .i64 3) ∧ w = w' := by
  have C := fun (i a b : Int) w => contI s i a b w hs
  have C' := Lib.hid C
  clear C
  have i194 : inB ((c : Nat) : Int) 194 223 = false := inB_no (by omega)
  have i224 : inB ((c : Nat) : Int) 224 239 = true := inB_yes (by omega)
  have i240 : inB ((c : Nat) : Int) 240 244 = false := inB_no (by omega)
  have y1 : contB s.data.toList ((k : Int) + 1).toNat 128 191 = true := by rw [show ((k : Int) + 1).toNat = k + 1 from by omega]; exact x1
  have y2 : contB s.data.toList ((k : Int) + 2).toNat 128 191 = true := by rw [show ((k : Int) + 2).toNat = k + 2 from by omega]; exact x2
  go_enter Tryd.func45, Tryd.ntmps45
  go_wp2_with (first | (go_at_call 65; refine (within _ _ _ _).mono ?_; rintro e w' ⟨rfl, rfl⟩) | (go_at_call 66; refine (C'.out _ _ _ _ (by omega)).mono ?_; rintro e w' ⟨rfl, rfl⟩))
  all_goals (go_ret; exact ⟨rfl, rfl⟩)

set_option maxHeartbeats 1000000 in
set_option maxRecDepth 100000 in
theorem long_j0 (s : ByteArray) (k : Nat) (w : World) (hs : s.size ≤ 35184372088832) (h : k < s.size) (hgt : (s[k]'h).toNat = 240) (x1 : contB s.data.toList (k + 1) 144 191 = false) :
    Calls Tryd.prog 45 #[.string s, .int .i64 k] w fun e w' => e = .returned (.int .i64 0) ∧ w = w' := by
  have C := fun (i a b : Int) w => contI s i a b w hs
  have C' := Lib.hid C
  clear C
  have i194 : inB (240 : Int) 194 223 = false := inB_no (by omega)
  have i224 : inB (240 : Int) 224 239 = false := inB_no (by omega)
  have i240 : inB (240 : Int) 240 244 = true := inB_yes (by omega)
  have y1 : contB s.data.toList ((k : Int) + 1).toNat 144 191 = false := by rw [show ((k : Int) + 1).toNat = k + 1 from by omega]; exact x1
  go_enter Tryd.func45, Tryd.ntmps45
  go_wp2_with (first | (go_at_call 65; refine (within _ _ _ _).mono ?_; rintro e w' ⟨rfl, rfl⟩) | (go_at_call 66; refine (C'.out _ _ _ _ (by omega)).mono ?_; rintro e w' ⟨rfl, rfl⟩))
  all_goals (go_ret; exact ⟨rfl, rfl⟩)

set_option maxHeartbeats 1000000 in
set_option maxRecDepth 100000 in
theorem long_j1 (s : ByteArray) (k : Nat) (w : World) (hs : s.size ≤ 35184372088832) (h : k < s.size) (hgt : (s[k]'h).toNat = 240) (x1 : contB s.data.toList (k + 1) 144 191 = true) (x2 : contB s.data.toList (k + 2) 128 191 = false) :
    Calls Tryd.prog 45 #[.string s, .int .i64 k] w fun e w' => e = .returned (.int .i64 0) ∧ w = w' := by
  have C := fun (i a b : Int) w => contI s i a b w hs
  have C' := Lib.hid C
  clear C
  have i194 : inB (240 : Int) 194 223 = false := inB_no (by omega)
  have i224 : inB (240 : Int) 224 239 = false := inB_no (by omega)
  have i240 : inB (240 : Int) 240 244 = true := inB_yes (by omega)
  have y1 : contB s.data.toList ((k : Int) + 1).toNat 144 191 = true := by rw [show ((k : Int) + 1).toNat = k + 1 from by omega]; exact x1
  have y2 : contB s.data.toList ((k : Int) + 2).toNat 128 191 = false := by rw [show ((k : Int) + 2).toNat = k + 2 from by omega]; exact x2
  go_enter Tryd.func45, Tryd.ntmps45
  go_wp2_with (first | (go_at_call 65; refine (within _ _ _ _).mono ?_; rintro e w' ⟨rfl, rfl⟩) | (go_at_call 66; refine (C'.out _ _ _ _ (by omega)).mono ?_; rintro e w' ⟨rfl, rfl⟩))
  all_goals (go_ret; exact ⟨rfl, rfl⟩)

set_option maxHeartbeats 1000000 in
set_option maxRecDepth 100000 in
theorem long_j2 (s : ByteArray) (k : Nat) (w : World) (hs : s.size ≤ 35184372088832) (h : k < s.size) (hgt : (s[k]'h).toNat = 240) (x1 : contB s.data.toList (k + 1) 144 191 = true) (x2 : contB s.data.toList (k + 2) 128 191 = true) (x3 : contB s.data.toList (k + 3) 128 191 = false) :
    Calls Tryd.prog 45 #[.string s, .int .i64 k] w fun e w' => e = .returned (.int .i64 0) ∧ w = w' := by
  have C := fun (i a b : Int) w => contI s i a b w hs
  have C' := Lib.hid C
  clear C
  have i194 : inB (240 : Int) 194 223 = false := inB_no (by omega)
  have i224 : inB (240 : Int) 224 239 = false := inB_no (by omega)
  have i240 : inB (240 : Int) 240 244 = true := inB_yes (by omega)
  have y1 : contB s.data.toList ((k : Int) + 1).toNat 144 191 = true := by rw [show ((k : Int) + 1).toNat = k + 1 from by omega]; exact x1
  have y2 : contB s.data.toList ((k : Int) + 2).toNat 128 191 = true := by rw [show ((k : Int) + 2).toNat = k + 2 from by omega]; exact x2
  have y3 : contB s.data.toList ((k : Int) + 3).toNat 128 191 = false := by rw [show ((k : Int) + 3).toNat = k + 3 from by omega]; exact x3
  go_enter Tryd.func45, Tryd.ntmps45
  go_wp2_with (first | (go_at_call 65; refine (within _ _ _ _).mono ?_; rintro e w' ⟨rfl, rfl⟩) | (go_at_call 66; refine (C'.out _ _ _ _ (by omega)).mono ?_; rintro e w' ⟨rfl, rfl⟩))
  all_goals (go_ret; exact ⟨rfl, rfl⟩)

set_option maxHeartbeats 1000000 in
set_option maxRecDepth 100000 in
theorem long_j3 (s : ByteArray) (k : Nat) (w : World) (hs : s.size ≤ 35184372088832) (h : k < s.size) (hgt : (s[k]'h).toNat = 240) (x1 : contB s.data.toList (k + 1) 144 191 = true) (x2 : contB s.data.toList (k + 2) 128 191 = true) (x3 : contB s.data.toList (k + 3) 128 191 = true) :
    Calls Tryd.prog 45 #[.string s, .int .i64 k] w fun e w' => e = .returned (.int .i64 4) ∧ w = w' := by
  have C := fun (i a b : Int) w => contI s i a b w hs
  have C' := Lib.hid C
  clear C
  have i194 : inB (240 : Int) 194 223 = false := inB_no (by omega)
  have i224 : inB (240 : Int) 224 239 = false := inB_no (by omega)
  have i240 : inB (240 : Int) 240 244 = true := inB_yes (by omega)
  have y1 : contB s.data.toList ((k : Int) + 1).toNat 144 191 = true := by rw [show ((k : Int) + 1).toNat = k + 1 from by omega]; exact x1
  have y2 : contB s.data.toList ((k : Int) + 2).toNat 128 191 = true := by rw [show ((k : Int) + 2).toNat = k + 2 from by omega]; exact x2
  have y3 : contB s.data.toList ((k : Int) + 3).toNat 128 191 = true := by rw [show ((k : Int) + 3).toNat = k + 3 from by omega]; exact x3
  go_enter Tryd.func45, Tryd.ntmps45
  go_wp2_with (first | (go_at_call 65; refine (within _ _ _ _).mono ?_; rintro e w' ⟨rfl, rfl⟩) | (go_at_call 66; refine (C'.out _ _ _ _ (by omega)).mono ?_; rintro e w' ⟨rfl, rfl⟩))
  all_goals (go_ret; exact ⟨rfl, rfl⟩)

set_option maxHeartbeats 1000000 in
set_option maxRecDepth 100000 in
theorem long_l0 (s : ByteArray) (k : Nat) (w : World) (hs : s.size ≤ 35184372088832) (h : k < s.size) (hgt : (s[k]'h).toNat = 244) (x1 : contB s.data.toList (k + 1) 128 143 = false) :
    Calls Tryd.prog 45 #[.string s, .int .i64 k] w fun e w' => e = .returned (.int .i64 0) ∧ w = w' := by
  have C := fun (i a b : Int) w => contI s i a b w hs
  have C' := Lib.hid C
  clear C
  have i194 : inB (244 : Int) 194 223 = false := inB_no (by omega)
  have i224 : inB (244 : Int) 224 239 = false := inB_no (by omega)
  have i240 : inB (244 : Int) 240 244 = true := inB_yes (by omega)
  have y1 : contB s.data.toList ((k : Int) + 1).toNat 128 143 = false := by rw [show ((k : Int) + 1).toNat = k + 1 from by omega]; exact x1
  go_enter Tryd.func45, Tryd.ntmps45
  go_wp2_with (first | (go_at_call 65; refine (within _ _ _ _).mono ?_; rintro e w' ⟨rfl, rfl⟩) | (go_at_call 66; refine (C'.out _ _ _ _ (by omega)).mono ?_; rintro e w' ⟨rfl, rfl⟩))
  all_goals (go_ret; exact ⟨rfl, rfl⟩)

set_option maxHeartbeats 1000000 in
set_option maxRecDepth 100000 in
theorem long_l1 (s : ByteArray) (k : Nat) (w : World) (hs : s.size ≤ 35184372088832) (h : k < s.size) (hgt : (s[k]'h).toNat = 244) (x1 : contB s.data.toList (k + 1) 128 143 = true) (x2 : contB s.data.toList (k + 2) 128 191 = false) :
    Calls Tryd.prog 45 #[.string s, .int .i64 k] w fun e w' => e = .returned (.int .i64 0) ∧ w = w' := by
  have C := fun (i a b : Int) w => contI s i a b w hs
  have C' := Lib.hid C
  clear C
  have i194 : inB (244 : Int) 194 223 = false := inB_no (by omega)
  have i224 : inB (244 : Int) 224 239 = false := inB_no (by omega)
  have i240 : inB (244 : Int) 240 244 = true := inB_yes (by omega)
  have y1 : contB s.data.toList ((k : Int) + 1).toNat 128 143 = true := by rw [show ((k : Int) + 1).toNat = k + 1 from by omega]; exact x1
  have y2 : contB s.data.toList ((k : Int) + 2).toNat 128 191 = false := by rw [show ((k : Int) + 2).toNat = k + 2 from by omega]; exact x2
  go_enter Tryd.func45, Tryd.ntmps45
  go_wp2_with (first | (go_at_call 65; refine (within _ _ _ _).mono ?_; rintro e w' ⟨rfl, rfl⟩) | (go_at_call 66; refine (C'.out _ _ _ _ (by omega)).mono ?_; rintro e w' ⟨rfl, rfl⟩))
  all_goals (go_ret; exact ⟨rfl, rfl⟩)

set_option maxHeartbeats 1000000 in
set_option maxRecDepth 100000 in
theorem long_l2 (s : ByteArray) (k : Nat) (w : World) (hs : s.size ≤ 35184372088832) (h : k < s.size) (hgt : (s[k]'h).toNat = 244) (x1 : contB s.data.toList (k + 1) 128 143 = true) (x2 : contB s.data.toList (k + 2) 128 191 = true) (x3 : contB s.data.toList (k + 3) 128 191 = false) :
    Calls Tryd.prog 45 #[.string s, .int .i64 k] w fun e w' => e = .returned (.int .i64 0) ∧ w = w' := by
  have C := fun (i a b : Int) w => contI s i a b w hs
  have C' := Lib.hid C
  clear C
  have i194 : inB (244 : Int) 194 223 = false := inB_no (by omega)
  have i224 : inB (244 : Int) 224 239 = false := inB_no (by omega)
  have i240 : inB (244 : Int) 240 244 = true := inB_yes (by omega)
  have y1 : contB s.data.toList ((k : Int) + 1).toNat 128 143 = true := by rw [show ((k : Int) + 1).toNat = k + 1 from by omega]; exact x1
  have y2 : contB s.data.toList ((k : Int) + 2).toNat 128 191 = true := by rw [show ((k : Int) + 2).toNat = k + 2 from by omega]; exact x2
  have y3 : contB s.data.toList ((k : Int) + 3).toNat 128 191 = false := by rw [show ((k : Int) + 3).toNat = k + 3 from by omega]; exact x3
  go_enter Tryd.func45, Tryd.ntmps45
  go_wp2_with (first | (go_at_call 65; refine (within _ _ _ _).mono ?_; rintro e w' ⟨rfl, rfl⟩) | (go_at_call 66; refine (C'.out _ _ _ _ (by omega)).mono ?_; rintro e w' ⟨rfl, rfl⟩))
  all_goals (go_ret; exact ⟨rfl, rfl⟩)

set_option maxHeartbeats 1000000 in
set_option maxRecDepth 100000 in
theorem long_l3 (s : ByteArray) (k : Nat) (w : World) (hs : s.size ≤ 35184372088832) (h : k < s.size) (hgt : (s[k]'h).toNat = 244) (x1 : contB s.data.toList (k + 1) 128 143 = true) (x2 : contB s.data.toList (k + 2) 128 191 = true) (x3 : contB s.data.toList (k + 3) 128 191 = true) :
    Calls Tryd.prog 45 #[.string s, .int .i64 k] w fun e w' => e = .returned (.int .i64 4) ∧ w = w' := by
  have C := fun (i a b : Int) w => contI s i a b w hs
  have C' := Lib.hid C
  clear C
  have i194 : inB (244 : Int) 194 223 = false := inB_no (by omega)
  have i224 : inB (244 : Int) 224 239 = false := inB_no (by omega)
  have i240 : inB (244 : Int) 240 244 = true := inB_yes (by omega)
  have y1 : contB s.data.toList ((k : Int) + 1).toNat 128 143 = true := by rw [show ((k : Int) + 1).toNat = k + 1 from by omega]; exact x1
  have y2 : contB s.data.toList ((k : Int) + 2).toNat 128 191 = true := by rw [show ((k : Int) + 2).toNat = k + 2 from by omega]; exact x2
  have y3 : contB s.data.toList ((k : Int) + 3).toNat 128 191 = true := by rw [show ((k : Int) + 3).toNat = k + 3 from by omega]; exact x3
  go_enter Tryd.func45, Tryd.ntmps45
  go_wp2_with (first | (go_at_call 65; refine (within _ _ _ _).mono ?_; rintro e w' ⟨rfl, rfl⟩) | (go_at_call 66; refine (C'.out _ _ _ _ (by omega)).mono ?_; rintro e w' ⟨rfl, rfl⟩))
  all_goals (go_ret; exact ⟨rfl, rfl⟩)

set_option maxHeartbeats 1000000 in
set_option maxRecDepth 100000 in
theorem long_m0 (s : ByteArray) (k : Nat) (w : World) (hs : s.size ≤ 35184372088832) (h : k < s.size) (c : Nat) (l0 : 241 ≤ c) (l1 : c ≤ 243) (hgt : (s[k]'h).toNat = c) (x1 : contB s.data.toList (k + 1) 128 191 = false) :
    Calls Tryd.prog 45 #[.string s, .int .i64 k] w fun e w' => e = .returned (.int .i64 0) ∧ w = w' := by
  have C := fun (i a b : Int) w => contI s i a b w hs
  have C' := Lib.hid C
  clear C
  have i194 : inB ((c : Nat) : Int) 194 223 = false := inB_no (by omega)
  have i224 : inB ((c : Nat) : Int) 224 239 = false := inB_no (by omega)
  have i240 : inB ((c : Nat) : Int) 240 244 = true := inB_yes (by omega)
  have y1 : contB s.data.toList ((k : Int) + 1).toNat 128 191 = false := by rw [show ((k : Int) + 1).toNat = k + 1 from by omega]; exact x1
  go_enter Tryd.func45, Tryd.ntmps45
  go_wp2_with (first | (go_at_call 65; refine (within _ _ _ _).mono ?_; rintro e w' ⟨rfl, rfl⟩) | (go_at_call 66; refine (C'.out _ _ _ _ (by omega)).mono ?_; rintro e w' ⟨rfl, rfl⟩))
  all_goals (go_ret; exact ⟨rfl, rfl⟩)

set_option maxHeartbeats 1000000 in
set_option maxRecDepth 100000 in
theorem long_m1 (s : ByteArray) (k : Nat) (w : World) (hs : s.size ≤ 35184372088832) (h : k < s.size) (c : Nat) (l0 : 241 ≤ c) (l1 : c ≤ 243) (hgt : (s[k]'h).toNat = c) (x1 : contB s.data.toList (k + 1) 128 191 = true) (x2 : contB s.data.toList (k + 2) 128 191 = false) :
    Calls Tryd.prog 45 #[.string s, .int .i64 k] w fun e w' => e = .returned (.int .i64 0) ∧ w = w' := by
  have C := fun (i a b : Int) w => contI s i a b w hs
  have C' := Lib.hid C
  clear C
  have i194 : inB ((c : Nat) : Int) 194 223 = false := inB_no (by omega)
  have i224 : inB ((c : Nat) : Int) 224 239 = false := inB_no (by omega)
  have i240 : inB ((c : Nat) : Int) 240 244 = true := inB_yes (by omega)
  have y1 : contB s.data.toList ((k : Int) + 1).toNat 128 191 = true := by rw [show ((k : Int) + 1).toNat = k + 1 from by omega]; exact x1
  have y2 : contB s.data.toList ((k : Int) + 2).toNat 128 191 = false := by rw [show ((k : Int) + 2).toNat = k + 2 from by omega]; exact x2
  go_enter Tryd.func45, Tryd.ntmps45
  go_wp2_with (first | (go_at_call 65; refine (within _ _ _ _).mono ?_; rintro e w' ⟨rfl, rfl⟩) | (go_at_call 66; refine (C'.out _ _ _ _ (by omega)).mono ?_; rintro e w' ⟨rfl, rfl⟩))
  all_goals (go_ret; exact ⟨rfl, rfl⟩)

set_option maxHeartbeats 1000000 in
set_option maxRecDepth 100000 in
theorem long_m2 (s : ByteArray) (k : Nat) (w : World) (hs : s.size ≤ 35184372088832) (h : k < s.size) (c : Nat) (l0 : 241 ≤ c) (l1 : c ≤ 243) (hgt : (s[k]'h).toNat = c) (x1 : contB s.data.toList (k + 1) 128 191 = true) (x2 : contB s.data.toList (k + 2) 128 191 = true) (x3 : contB s.data.toList (k + 3) 128 191 = false) :
    Calls Tryd.prog 45 #[.string s, .int .i64 k] w fun e w' => e = .returned (.int .i64 0) ∧ w = w' := by
  have C := fun (i a b : Int) w => contI s i a b w hs
  have C' := Lib.hid C
  clear C
  have i194 : inB ((c : Nat) : Int) 194 223 = false := inB_no (by omega)
  have i224 : inB ((c : Nat) : Int) 224 239 = false := inB_no (by omega)
  have i240 : inB ((c : Nat) : Int) 240 244 = true := inB_yes (by omega)
  have y1 : contB s.data.toList ((k : Int) + 1).toNat 128 191 = true := by rw [show ((k : Int) + 1).toNat = k + 1 from by omega]; exact x1
  have y2 : contB s.data.toList ((k : Int) + 2).toNat 128 191 = true := by rw [show ((k : Int) + 2).toNat = k + 2 from by omega]; exact x2
  have y3 : contB s.data.toList ((k : Int) + 3).toNat 128 191 = false := by rw [show ((k : Int) + 3).toNat = k + 3 from by omega]; exact x3
  go_enter Tryd.func45, Tryd.ntmps45
  go_wp2_with (first | (go_at_call 65; refine (within _ _ _ _).mono ?_; rintro e w' ⟨rfl, rfl⟩) | (go_at_call 66; refine (C'.out _ _ _ _ (by omega)).mono ?_; rintro e w' ⟨rfl, rfl⟩))
  all_goals (go_ret; exact ⟨rfl, rfl⟩)

set_option maxHeartbeats 1000000 in
set_option maxRecDepth 100000 in
theorem long_m3 (s : ByteArray) (k : Nat) (w : World) (hs : s.size ≤ 35184372088832) (h : k < s.size) (c : Nat) (l0 : 241 ≤ c) (l1 : c ≤ 243) (hgt : (s[k]'h).toNat = c) (x1 : contB s.data.toList (k + 1) 128 191 = true) (x2 : contB s.data.toList (k + 2) 128 191 = true) (x3 : contB s.data.toList (k + 3) 128 191 = true) :
    Calls Tryd.prog 45 #[.string s, .int .i64 k] w fun e w' => e = .returned (.int .i64 4) ∧ w = w' := by
  have C := fun (i a b : Int) w => contI s i a b w hs
  have C' := Lib.hid C
  clear C
  have i194 : inB ((c : Nat) : Int) 194 223 = false := inB_no (by omega)
  have i224 : inB ((c : Nat) : Int) 224 239 = false := inB_no (by omega)
  have i240 : inB ((c : Nat) : Int) 240 244 = true := inB_yes (by omega)
  have y1 : contB s.data.toList ((k : Int) + 1).toNat 128 191 = true := by rw [show ((k : Int) + 1).toNat = k + 1 from by omega]; exact x1
  have y2 : contB s.data.toList ((k : Int) + 2).toNat 128 191 = true := by rw [show ((k : Int) + 2).toNat = k + 2 from by omega]; exact x2
  have y3 : contB s.data.toList ((k : Int) + 3).toNat 128 191 = true := by rw [show ((k : Int) + 3).toNat = k + 3 from by omega]; exact x3
  go_enter Tryd.func45, Tryd.ntmps45
  go_wp2_with (first | (go_at_call 65; refine (within _ _ _ _).mono ?_; rintro e w' ⟨rfl, rfl⟩) | (go_at_call 66; refine (C'.out _ _ _ _ (by omega)).mono ?_; rintro e w' ⟨rfl, rfl⟩))
  all_goals (go_ret; exact ⟨rfl, rfl⟩)

theorem Long (s : ByteArray) (k : Nat) (w : World) (hs : s.size ≤ 35184372088832) (h : k < s.size) :
    Calls Tryd.prog 45 #[.string s, .int .i64 k] w fun e w' => e = .returned (.int .i64 (longL (s.data.toList.drop k))) ∧ w = w' := by
  rw [longL_drop s k h]
  have hg : s[k]'h = s.get! k := get_lt s k h
  have hb := (s.get! k).toNat_lt
  obtain ⟨c, hc⟩ : ∃ c, (s.get! k).toNat = c := ⟨_, rfl⟩
  have hgt : (s[k]'h).toNat = c := by rw [hg, hc]
  rw [hc] at hb
  simp only [hc]
  clear hg hc
  have bf : ∀ (o : Nat) (a b : Int), contB s.data.toList (k + o) a b = true ∨ contB s.data.toList (k + o) a b = false := fun o a b => by cases contB s.data.toList (k + o) a b <;> simp
  by_cases e0 : c ≤ 127
  · rw [if_pos (by omega)]; exact (long_a s k w hs h c (by omega) (by omega) hgt)
  by_cases e128 : c ≤ 193
  · rw [if_neg (by omega)]
    rw [show inB ((c : Nat) : Int) 194 223 = false from inB_no (by omega), show inB ((c : Nat) : Int) 224 239 = false from inB_no (by omega), show inB ((c : Nat) : Int) 240 244 = false from inB_no (by omega)]
    simp only [Bool.false_and, Bool.false_eq_true, if_false]
    exact (long_b s k w hs h c (by omega) (by omega) hgt)
  by_cases e194 : c ≤ 223
  · rw [if_neg (by omega)]
    rw [show inB ((c : Nat) : Int) 194 223 = true from inB_yes (by omega), show inB ((c : Nat) : Int) 224 239 = false from inB_no (by omega), show inB ((c : Nat) : Int) 240 244 = false from inB_no (by omega)]
    rcases bf 1 128 191 with x1 | x1
    · rw [x1]; exact (long_d1 s k w hs h c (by omega) (by omega) hgt x1)
    · rw [x1]; exact (long_d0 s k w hs h c (by omega) (by omega) hgt x1)
  by_cases e224 : c ≤ 224
  · obtain rfl : c = 224 := by omega
    rw [if_neg (by omega)]
    rw [show inB ((224 : Nat) : Int) 194 223 = false from inB_no (by omega), show inB ((224 : Nat) : Int) 224 239 = true from inB_yes (by omega), show inB ((224 : Nat) : Int) 240 244 = false from inB_no (by omega)]
    rw [show (if 224 = 224 then (160 : Int) else 128) = 160 from if_pos rfl, show (if 224 = 237 then (159 : Int) else 191) = 191 from if_neg (by omega)]
    rcases bf 1 160 191 with x1 | x1
    · rcases bf 2 128 191 with x2 | x2
      · rw [x1, x2]; exact (long_e2 s k w hs h hgt x1 x2)
      · rw [x1, x2]; exact (long_e1 s k w hs h hgt x1 x2)
    · rw [x1]; exact (long_e0 s k w hs h hgt x1)
  by_cases e225 : c ≤ 236
  · rw [if_neg (by omega)]
    rw [show inB ((c : Nat) : Int) 194 223 = false from inB_no (by omega), show inB ((c : Nat) : Int) 224 239 = true from inB_yes (by omega), show inB ((c : Nat) : Int) 240 244 = false from inB_no (by omega)]
    rw [show (if c = 224 then (160 : Int) else 128) = 128 from if_neg (by omega), show (if c = 237 then (159 : Int) else 191) = 191 from if_neg (by omega)]
    rcases bf 1 128 191 with x1 | x1
    · rcases bf 2 128 191 with x2 | x2
      · rw [x1, x2]; exact (long_g2 s k w hs h c (by omega) (by omega) hgt x1 x2)
      · rw [x1, x2]; exact (long_g1 s k w hs h c (by omega) (by omega) hgt x1 x2)
    · rw [x1]; exact (long_g0 s k w hs h c (by omega) (by omega) hgt x1)
  by_cases e237 : c ≤ 237
  · obtain rfl : c = 237 := by omega
    rw [if_neg (by omega)]
    rw [show inB ((237 : Nat) : Int) 194 223 = false from inB_no (by omega), show inB ((237 : Nat) : Int) 224 239 = true from inB_yes (by omega), show inB ((237 : Nat) : Int) 240 244 = false from inB_no (by omega)]
    rw [show (if 237 = 224 then (160 : Int) else 128) = 128 from if_neg (by omega), show (if 237 = 237 then (159 : Int) else 191) = 159 from if_pos rfl]
    rcases bf 1 128 159 with x1 | x1
    · rcases bf 2 128 191 with x2 | x2
      · rw [x1, x2]; exact (long_f2 s k w hs h hgt x1 x2)
      · rw [x1, x2]; exact (long_f1 s k w hs h hgt x1 x2)
    · rw [x1]; exact (long_f0 s k w hs h hgt x1)
  by_cases e238 : c ≤ 239
  · rw [if_neg (by omega)]
    rw [show inB ((c : Nat) : Int) 194 223 = false from inB_no (by omega), show inB ((c : Nat) : Int) 224 239 = true from inB_yes (by omega), show inB ((c : Nat) : Int) 240 244 = false from inB_no (by omega)]
    rw [show (if c = 224 then (160 : Int) else 128) = 128 from if_neg (by omega), show (if c = 237 then (159 : Int) else 191) = 191 from if_neg (by omega)]
    rcases bf 1 128 191 with x1 | x1
    · rcases bf 2 128 191 with x2 | x2
      · rw [x1, x2]; exact (long_i2 s k w hs h c (by omega) (by omega) hgt x1 x2)
      · rw [x1, x2]; exact (long_i1 s k w hs h c (by omega) (by omega) hgt x1 x2)
    · rw [x1]; exact (long_i0 s k w hs h c (by omega) (by omega) hgt x1)
  by_cases e240 : c ≤ 240
  · obtain rfl : c = 240 := by omega
    rw [if_neg (by omega)]
    rw [show inB ((240 : Nat) : Int) 194 223 = false from inB_no (by omega), show inB ((240 : Nat) : Int) 224 239 = false from inB_no (by omega), show inB ((240 : Nat) : Int) 240 244 = true from inB_yes (by omega)]
    rw [show (if 240 = 240 then (144 : Int) else 128) = 144 from if_pos rfl, show (if 240 = 244 then (143 : Int) else 191) = 191 from if_neg (by omega)]
    rcases bf 1 144 191 with x1 | x1
    · rcases bf 2 128 191 with x2 | x2
      · rcases bf 3 128 191 with x3 | x3
        · rw [x1, x2, x3]; exact (long_j3 s k w hs h hgt x1 x2 x3)
        · rw [x1, x2, x3]; exact (long_j2 s k w hs h hgt x1 x2 x3)
      · rw [x1, x2]; exact (long_j1 s k w hs h hgt x1 x2)
    · rw [x1]; exact (long_j0 s k w hs h hgt x1)
  by_cases e241 : c ≤ 243
  · rw [if_neg (by omega)]
    rw [show inB ((c : Nat) : Int) 194 223 = false from inB_no (by omega), show inB ((c : Nat) : Int) 224 239 = false from inB_no (by omega), show inB ((c : Nat) : Int) 240 244 = true from inB_yes (by omega)]
    rw [show (if c = 240 then (144 : Int) else 128) = 128 from if_neg (by omega), show (if c = 244 then (143 : Int) else 191) = 191 from if_neg (by omega)]
    rcases bf 1 128 191 with x1 | x1
    · rcases bf 2 128 191 with x2 | x2
      · rcases bf 3 128 191 with x3 | x3
        · rw [x1, x2, x3]; exact (long_m3 s k w hs h c (by omega) (by omega) hgt x1 x2 x3)
        · rw [x1, x2, x3]; exact (long_m2 s k w hs h c (by omega) (by omega) hgt x1 x2 x3)
      · rw [x1, x2]; exact (long_m1 s k w hs h c (by omega) (by omega) hgt x1 x2)
    · rw [x1]; exact (long_m0 s k w hs h c (by omega) (by omega) hgt x1)
  by_cases e244 : c ≤ 244
  · obtain rfl : c = 244 := by omega
    rw [if_neg (by omega)]
    rw [show inB ((244 : Nat) : Int) 194 223 = false from inB_no (by omega), show inB ((244 : Nat) : Int) 224 239 = false from inB_no (by omega), show inB ((244 : Nat) : Int) 240 244 = true from inB_yes (by omega)]
    rw [show (if 244 = 240 then (144 : Int) else 128) = 128 from if_neg (by omega), show (if 244 = 244 then (143 : Int) else 191) = 143 from if_pos rfl]
    rcases bf 1 128 143 with x1 | x1
    · rcases bf 2 128 191 with x2 | x2
      · rcases bf 3 128 191 with x3 | x3
        · rw [x1, x2, x3]; exact (long_l3 s k w hs h hgt x1 x2 x3)
        · rw [x1, x2, x3]; exact (long_l2 s k w hs h hgt x1 x2 x3)
      · rw [x1, x2]; exact (long_l1 s k w hs h hgt x1 x2)
    · rw [x1]; exact (long_l0 s k w hs h hgt x1)
  rw [if_neg (by omega)]
  rw [show inB ((c : Nat) : Int) 194 223 = false from inB_no (by omega), show inB ((c : Nat) : Int) 224 239 = false from inB_no (by omega), show inB ((c : Nat) : Int) 240 244 = false from inB_no (by omega)]
  simp only [Bool.false_and, Bool.false_eq_true, if_false]
  exact (long_c s k w hs h c (by omega) (by omega) hgt)
end Glw
end Go.Proofs.YthamcklkmchkiaaDoor
