/-
  DERIVED. THE SMALL FUNCTIONS OF LAYER 1 (the program's and the reference's), walked: what a rune or a byte may be.
-/
import Derived.Test.YthamcklkmchkiaaDoorRows
import Derived.Test.YthamcklkmchkiaaDoorGlDec
import Derived.WalkKit
import Derived.WalkSpells
import Derived.WalkLawsBesides
import Derived.Lib.Hide
namespace Go.Proofs.YthamcklkmchkiaaDoor
open Go.RowKit
namespace Glw
open Gl

theorem ret_bool {a b : Bool} (h : a = b) : Ending.returned (.bool a) = .returned (.bool b) := by rw [h]
theorem ret_int {k : IntKind} {a b : Int} (h : a = b) : Ending.returned (.int k a) = .returned (.int k b) := by rw [h]

set_option maxHeartbeats 400000 in
theorem within (c a b : Int) (w : World) :
    Calls Tryd.prog 65 #[.int .u8 c, .int .u8 a, .int .u8 b] w fun e w' => e = .returned (.bool (inB c a b)) ∧ w = w' := by
  go_enter Tryd.func65, Tryd.ntmps65
  go_wp2
  all_goals (go_ret; exact ⟨ret_bool (by simp [inB]; omega), rfl⟩)

set_option maxHeartbeats 400000 in
theorem isOdd (r long : Int) (w : World) :
    Calls Tryd.prog 74 #[.int .i32 r, .int .i64 long] w fun e w' => e = .returned (.bool (oddZ r long)) ∧ w = w' := by
  go_enter Tryd.func74, Tryd.ntmps74
  go_wp2
  all_goals (go_ret; exact ⟨ret_bool (by rw [Bool.eq_iff_iff]; simp [oddZ]; try omega), rfl⟩)

set_option maxHeartbeats 400000 in
theorem behind (c : Int) (w : World) :
    Calls Tryd.prog 89 #[.int .u8 c] w fun e w' => e = .returned (.bool (behindZ c)) ∧ w = w' := by
  by_cases h1 : inB c 97 122 = true
  · go_enter Tryd.func89, Tryd.ntmps89
    go_wp2_with (go_at_call 65; refine (within _ _ _ _).mono ?_; rintro e w' ⟨rfl, rfl⟩)
    all_goals (go_ret; exact ⟨ret_bool (by simp [behindZ, h1]), rfl⟩)
  · have h1' : inB c 97 122 = false := by simpa using h1
    clear h1
    by_cases h2 : inB c 65 90 = true
    · go_enter Tryd.func89, Tryd.ntmps89
      go_wp2_with (go_at_call 65; refine (within _ _ _ _).mono ?_; rintro e w' ⟨rfl, rfl⟩)
      all_goals (go_ret; exact ⟨ret_bool (by simp [behindZ, h2]), rfl⟩)
    · have h2' : inB c 65 90 = false := by simpa using h2
      clear h2
      by_cases h3 : inB c 48 57 = true
      · go_enter Tryd.func89, Tryd.ntmps89
        go_wp2_with (go_at_call 65; refine (within _ _ _ _).mono ?_; rintro e w' ⟨rfl, rfl⟩)
        all_goals (go_ret; exact ⟨ret_bool (by simp [behindZ, h3]), rfl⟩)
      · have h3' : inB c 48 57 = false := by simpa using h3
        clear h3
        go_enter Tryd.func89, Tryd.ntmps89
        go_wp2_with (go_at_call 65; refine (within _ _ _ _).mono ?_; rintro e w' ⟨rfl, rfl⟩)
        all_goals (go_ret; exact ⟨ret_bool (by rw [Bool.eq_iff_iff]; simp [behindZ, h1', h2', h3']), rfl⟩)

/-- The reference's 'cont': a byte of a text, at a place, between two. -/
theorem cont (s : ByteArray) (k : Nat) (a b : Int) (w : World) (_hs : s.size ≤ maxLen) :
    Calls Tryd.prog 66 #[.string s, .int .i64 k, .int .u8 a, .int .u8 b] w fun e w' => e = .returned (.bool (contB s.data.toList k a b)) ∧ w = w' := by
  have hc := cont_get s 0 k a b
  simp only [List.drop_zero, Nat.zero_add] at hc
  rw [hc]
  clear hc
  unfold maxLen at _hs
  by_cases h : k < s.size
  · have hg : s[k]'h = s.get! k := get_lt s k h
    obtain ⟨x, hx⟩ : ∃ x, s.get! k = x := ⟨_, rfl⟩
    rw [hx] at hg
    rw [hx]
    clear hx
    go_enter Tryd.func66, Tryd.ntmps66
    go_wp2_with (go_at_call 65; refine (within _ _ _ _).mono ?_; rintro e w' ⟨rfl, rfl⟩)
    all_goals (go_ret; exact ⟨ret_bool (by simp [h]), rfl⟩)
  · have h' : s.size ≤ k := by omega
    go_enter Tryd.func66, Tryd.ntmps66
    go_wp2_with (go_at_call 65; refine (within _ _ _ _).mono ?_; rintro e w' ⟨rfl, rfl⟩)
    all_goals (go_ret; exact ⟨ret_bool (by simp [h]), rfl⟩)

theorem hexV_bool (c : UInt8) : hexV c = if 48 ≤ c.toNat ∧ c.toNat ≤ 57 then some (c.toNat - 48) else if 97 ≤ c.toNat ∧ c.toNat ≤ 102 then some (c.toNat - 87) else none := rfl

/-- The number of a figure of sixteen; below 0: it is none. -/
def sixZ (c : UInt8) : Int := match hexV c with
  | some x => (x : Int)
  | none => -1

/-- A figure of sixteen, as the reference tells it. -/
theorem hex_slice (n : Nat) (h : n < 16) : (ByteArray.mk #[48, 49, 50, 51, 52, 53, 54, 55, 56, 57, 97, 98, 99, 100, 101, 102]).extract n (n + 1) = ⟨#[hexL n]⟩ := by
  have H : ∀ n, n < 16 → (ByteArray.mk #[48, 49, 50, 51, 52, 53, 54, 55, 56, 57, 97, 98, 99, 100, 101, 102]).extract n (n + 1) = ⟨#[hexL n]⟩ := by decide
  exact H n h

set_option maxHeartbeats 400000 in
theorem figure (n : Nat) (h : n < 16) (w : World) :
    Calls Tryd.prog 56 #[.int .u8 n] w fun e w' => e = .returned (.string ⟨#[hexL n]⟩) ∧ w = w' := by
  have H := Lib.hid (hex_slice n h)
  go_enter Tryd.func56, Tryd.ntmps56
  go_wp2
  all_goals (go_ret; exact ⟨by rw [H.out]; rfl, rfl⟩)
end Glw
end Go.Proofs.YthamcklkmchkiaaDoor
