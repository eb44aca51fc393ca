/-
  DERIVED. WORDS AND TAGS, WALKED: the program's (rune by rune) and the reference's (byte by byte) come to one plain answer.
-/
import Derived.Test.YthamcklkmchkiaaDoorGlLong
namespace Go.Proofs.YthamcklkmchkiaaDoor
open Go.RowKit
namespace Glw
open Gl

/-- A rune's test at bounds below 128 is its first byte's. -/
theorem inB_rune (s : ByteArray) (pos : Nat) (h : pos < s.size) (a b : Int) (_ : 0 ≤ a) (hb : b < 128) : inB (Utf8.decode s pos).1 a b = inB (s.get! pos).toNat a b := by
  rw [Bool.eq_iff_iff, inB_iff, inB_iff]
  rcases decode_cases s pos h with ⟨_, h2, h3⟩ | ⟨_, h2, h3⟩ | ⟨_, h2, h3, _⟩
  · rw [h3]; simp only []; omega
  · rw [h3]
  · omega
theorem behind_rune (s : ByteArray) (pos : Nat) (h : pos < s.size) : behindZ (Utf8.decode s pos).1 = behindB (s.get! pos) := by
  unfold behindB behindZ
  rw [inB_rune s pos h 97 122 (by decide) (by decide), inB_rune s pos h 65 90 (by decide) (by decide), inB_rune s pos h 48 57 (by decide) (by decide)]
  congr 3
  rw [Bool.eq_iff_iff, decide_eq_true_iff, decide_eq_true_iff]
  rcases decode_cases s pos h with ⟨_, h2, h3⟩ | ⟨_, h2, h3⟩ | ⟨_, h2, h3, _⟩
  · rw [h3]; simp only []; omega
  · rw [h3]
  · omega
/-- Below 128 a rune is one byte. -/
theorem step_ascii (s : ByteArray) (pos : Nat) (h : pos < s.size) (hc : (s.get! pos).toNat < 128) : (Utf8.decode s pos).2 = 1 := by
  rcases decode_cases s pos h with ⟨_, h2, _⟩ | ⟨_, _, h3⟩ | ⟨_, h2, _⟩
  · omega
  · rw [h3]
  · omega
theorem inB_ascii {c : UInt8} {a b : Int} (hb : b < 128) (h : inB c.toNat a b = true) : c.toNat < 128 := by
  rw [inB_iff] at h; omega
theorem behind_ascii {c : UInt8} (h : behindB c = true) : c.toNat < 128 := by
  unfold behindB behindZ at h
  simp only [Bool.or_eq_true, inB_iff, decide_eq_true_eq] at h
  omega

def ansL (a b : Int) (l : List UInt8) : Bool := match l with
  | [] => false
  | c :: r => inB c.toNat a b && r.all behindB
theorem ans_word (l : List UInt8) : ansL 97 122 l = wordL l := by cases l <;> rfl
theorem ans_tag (l : List UInt8) : ansL 65 90 l = tagL l := by cases l <;> rfl

theorem data_nil (s : ByteArray) (h : s.size = 0) : s.data.toList = [] := List.eq_nil_of_length_eq_zero (by rw [size_data]; exact h)
theorem toList_data (s : ByteArray) : s.toList = s.data.toList := by
  exact ByteArray.toList_eq s
theorem ansL_cons (s : ByteArray) (a b : Int) (h : 0 < s.size) : ansL a b s.data.toList = (inB (s.get! 0).toNat a b && (s.data.toList.drop 1).all behindB) := by
  have := drop_cons s 0 h
  rw [List.drop_zero] at this
  have e : ansL a b s.data.toList = ansL a b (s.get! 0 :: s.data.toList.drop (0 + 1)) := by rw [← this]
  rw [e]
  rfl
theorem all_step (s : ByteArray) (pos : Nat) (h : pos < s.size) : (s.data.toList.drop pos).all behindB = (behindB (s.get! pos) && (s.data.toList.drop (pos + 1)).all behindB) := by
  rw [drop_cons s pos h, List.all_cons]

set_option maxHeartbeats 1000000 in
theorem all (s : ByteArray) (w : World) (hs : s.size ≤ 9223372036854775807) :
    Calls Tryd.prog 69 #[.string s] w fun e w' => e = .returned (.bool ((s.data.toList.drop 1).all behindB)) ∧ w = w' := by
  obtain ⟨A, hA⟩ : ∃ A, (s.data.toList.drop 1).all behindB = A := ⟨_, rfl⟩
  rw [hA]
  have HA := Lib.hid hA
  clear hA
  go_enter Tryd.func69, Tryd.ntmps69
  go_wp2
  go_loop [3] (fun i => ∃ k : Nat, 1 ≤ k ∧ i = .int .i64 k ∧ A = (s.data.toList.drop k).all behindB) (fun i => s.size - (intOf i).toNat)
  case atStart => exact ⟨1, Nat.le_refl _, rfl, HA.out.symm⟩
  case round =>
    obtain ⟨k, hk1, rfl, he⟩ := hrel
    have He := Lib.hid he
    clear he
    by_cases hp : k < s.size
    · have hg := get_lt s k hp
      obtain ⟨c, hc⟩ : ∃ c, s.get! k = c := ⟨_, rfl⟩
      have hc' := Lib.hid hc
      rw [hc] at hg
      clear hc
      by_cases hf : behindZ (c.toNat : Int) = true
      · go_wp2_with (go_at_call 89; refine (behind _ _).mono ?_; rintro e w' ⟨rfl, rfl⟩)
        go_round
        case rel => exact ⟨k + 1, by omega, by go_num, by rw [He.out, all_step s k hp, hc'.out, show behindB c = true from hf, Bool.true_and]⟩
        case measure => simp [intOf]; omega
      · have hf' : behindZ (c.toNat : Int) = false := by simpa using hf
        clear hf
        go_wp2_with (go_at_call 89; refine (behind _ _).mono ?_; rintro e w' ⟨rfl, rfl⟩)
        go_ret
        exact ⟨ret_bool (by rw [He.out, all_step s k hp, hc'.out, show behindB c = false from hf', Bool.false_and]), rfl⟩
    · have hge : s.size ≤ k := by omega
      clear hp
      go_wp2
      go_ret
      exact ⟨ret_bool (by rw [He.out, List.drop_eq_nil_of_le (by rw [size_data]; exact hge)]; rfl), rfl⟩

set_option maxHeartbeats 1000000 in
theorem refIsWord (s : ByteArray) (w : World) (hs : s.size ≤ 9223372036854775807) :
    Calls Tryd.prog 49 #[.string s] w fun e w' => e = .returned (.bool (wordL s.data.toList)) ∧ w = w' := by
  rw [← ans_word]
  by_cases hz : s.size = 0
  · have ez : ansL 97 122 s.data.toList = false := by rw [data_nil s hz]; rfl
    rw [ez]
    go_enter Tryd.func49, Tryd.ntmps49
    go_wp2
    go_ret
    exact ⟨rfl, rfl⟩
  · have h0 : 0 < s.size := by omega
    have hg := get_lt s 0 h0
    rw [ansL_cons s _ _ h0]
    obtain ⟨c, hc⟩ : ∃ c, s.get! 0 = c := ⟨_, rfl⟩
    rw [hc] at hg
    rw [hc]
    clear hc hz
    have h0' : (0 : Int) < s.size := by omega
    by_cases hf : inB (c.toNat : Int) 97 122 = true
    · rw [hf, Bool.true_and]
      go_enter Tryd.func49, Tryd.ntmps49
      go_wp2_with (first | (go_at_call 65; refine (within _ _ _ _).mono ?_; rintro e w' ⟨rfl, rfl⟩) | (go_at_call 69; refine (all _ _ hs).mono ?_; rintro e w' ⟨rfl, rfl⟩))
      all_goals (go_ret; exact ⟨ret_bool (by first | rfl | simp_all), rfl⟩)
    · have hf' : inB (c.toNat : Int) 97 122 = false := by simpa using hf
      rw [hf', Bool.false_and]
      clear hf
      go_enter Tryd.func49, Tryd.ntmps49
      go_wp2_with (first | (go_at_call 65; refine (within _ _ _ _).mono ?_; rintro e w' ⟨rfl, rfl⟩) | (go_at_call 69; refine (all _ _ hs).mono ?_; rintro e w' ⟨rfl, rfl⟩))
      all_goals (go_ret; exact ⟨rfl, rfl⟩)

set_option maxHeartbeats 1000000 in
theorem refIsTag (s : ByteArray) (w : World) (hs : s.size ≤ 9223372036854775807) :
    Calls Tryd.prog 67 #[.string s] w fun e w' => e = .returned (.bool (tagL s.data.toList)) ∧ w = w' := by
  rw [← ans_tag]
  by_cases hz : s.size = 0
  · have ez : ansL 65 90 s.data.toList = false := by rw [data_nil s hz]; rfl
    rw [ez]
    go_enter Tryd.func67, Tryd.ntmps67
    go_wp2
    go_ret
    exact ⟨rfl, rfl⟩
  · have h0 : 0 < s.size := by omega
    have hg := get_lt s 0 h0
    rw [ansL_cons s _ _ h0]
    obtain ⟨c, hc⟩ : ∃ c, s.get! 0 = c := ⟨_, rfl⟩
    rw [hc] at hg
    rw [hc]
    clear hc hz
    have h0' : (0 : Int) < s.size := by omega
    by_cases hf : inB (c.toNat : Int) 65 90 = true
    · rw [hf, Bool.true_and]
      go_enter Tryd.func67, Tryd.ntmps67
      go_wp2_with (first | (go_at_call 65; refine (within _ _ _ _).mono ?_; rintro e w' ⟨rfl, rfl⟩) | (go_at_call 69; refine (all _ _ hs).mono ?_; rintro e w' ⟨rfl, rfl⟩))
      all_goals (go_ret; exact ⟨ret_bool (by first | rfl | simp_all), rfl⟩)
    · have hf' : inB (c.toNat : Int) 65 90 = false := by simpa using hf
      rw [hf', Bool.false_and]
      clear hf
      go_enter Tryd.func67, Tryd.ntmps67
      go_wp2_with (first | (go_at_call 65; refine (within _ _ _ _).mono ?_; rintro e w' ⟨rfl, rfl⟩) | (go_at_call 69; refine (all _ _ hs).mono ?_; rintro e w' ⟨rfl, rfl⟩))
      all_goals (go_ret; exact ⟨rfl, rfl⟩)
end Glw
end Go.Proofs.YthamcklkmchkiaaDoor
