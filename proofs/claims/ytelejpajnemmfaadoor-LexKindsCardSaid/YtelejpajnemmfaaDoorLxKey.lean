/-
  DERIVED. LAYER 2 (lex): keys: that " w " stands in the text of all keys says that w is one of them; and the small functions, walked.
-/
import Derived.Test.YtelejpajnemmfaaDoorLx
import Derived.Test.YtelejpajnemmfaaDoorGlWord
import Derived.Test.YtelejpajnemmfaaDoorGlQuote
import Derived.Test.YtelejpajnemmfaaDoorGlRefQuote
import Derived.Lib.IndexMore
namespace Go.Proofs.YtelejpajnemmfaaDoor
open Go.RowKit
namespace Lx
open Gl

theorem contains_nil (b : UInt8) (t : List UInt8) : Lib.contains [] (b :: t) = false := by
  unfold Lib.contains Lib.index; simp
theorem contains_cons (b : UInt8) (l sub : List UInt8) : Lib.contains (b :: l) sub = (sub.isPrefixOf (b :: l) || Lib.contains l sub) := by
  unfold Lib.contains
  by_cases h : sub.isPrefixOf (b :: l) = true
  · conv => lhs; unfold Lib.index
    rw [if_pos h, h]; rfl
  · have h' : sub.isPrefixOf (b :: l) = false := Bool.eq_false_iff.2 h
    conv => lhs; unfold Lib.index
    rw [h', Bool.false_or]
    rcases Lib.index_spec l sub with ⟨h1, _⟩ | ⟨i, h1, _⟩
    · rw [h1]; rfl
    · rw [h1]
      have : ((i : Int) == -1) = false := by rw [beq_eq_false_iff_ne]; omega
      simp [this]
      omega

theorem contains_skip (t r : List UInt8) : ∀ (x : List UInt8), (∀ c ∈ x, c ≠ 32) → Lib.contains (x ++ r) (32 :: t) = Lib.contains r (32 :: t)
  | [], _ => rfl
  | c :: x, h => by
    have hc : c ≠ 32 := h c (by simp)
    rw [List.cons_append, contains_cons, contains_skip t r x (fun c' hc' => h c' (by simp [hc']))]
    have : ((32 : UInt8) == c) = false := by simpa using fun e => hc e.symm
    simp [List.isPrefixOf, this]

theorem prefix_word (r : List UInt8) : ∀ (w x : List UInt8), (∀ c ∈ w, c ≠ 32) → (∀ c ∈ x, c ≠ 32) → (w ++ [32]).isPrefixOf (x ++ 32 :: r) = (w == x)
  | [], [], _, _ => by simp [List.isPrefixOf]
  | [], c :: x, _, h => by
    have hc : c ≠ 32 := h c (by simp)
    have : ((32 : UInt8) == c) = false := by simpa using fun e => hc e.symm
    simp [List.isPrefixOf, this]
  | c :: w, [], h, _ => by
    have hc : c ≠ 32 := h c (by simp)
    simp [List.isPrefixOf, hc]
  | c :: w, d :: x, h1, h2 => by
    have := prefix_word r w x (fun c' hc' => h1 c' (by simp [hc'])) (fun c' hc' => h2 c' (by simp [hc']))
    simp only [List.cons_append, List.isPrefixOf, this]
    rfl

/-- The text of some words: a blank ahead of each, and one behind. -/
def wordsL : List (List UInt8) → List UInt8
  | [] => [32]
  | x :: xs => 32 :: (x ++ wordsL xs)
theorem wordsL_head (xs : List (List UInt8)) : ∃ r, wordsL xs = 32 :: r := by cases xs <;> exact ⟨_, rfl⟩

theorem contains_words (w : List UInt8) (hw : ∀ c ∈ w, c ≠ 32) : ∀ xs : List (List UInt8), (∀ x ∈ xs, ∀ c ∈ x, c ≠ 32) → Lib.contains (wordsL xs) (32 :: (w ++ [32])) = xs.contains w
  | [], _ => by
    show Lib.contains [32] _ = false
    rw [contains_cons, contains_nil]
    cases w <;> simp [List.isPrefixOf]
  | x :: xs, h => by
    obtain ⟨r, hr⟩ := wordsL_head xs
    have ih := contains_words w hw xs (fun x' hx' => h x' (by simp [hx']))
    show Lib.contains (32 :: (x ++ wordsL xs)) _ = _
    rw [contains_cons, contains_skip _ _ x (h x (by simp)), ih, hr]
    have := prefix_word r w x hw (h x (by simp))
    simp only [List.isPrefixOf, this, List.contains_cons]
    simp

theorem keysL_plain : ∀ x ∈ keysL, ∀ c ∈ x, c ≠ 32 := by decide
theorem keysL_words : ∀ x ∈ keysL, wordL x = true := by decide
theorem wordL_plain {l : List UInt8} (h : wordL l = true) : ∀ c ∈ l, c ≠ 32 := by
  cases l with
  | nil => intro c hc; cases hc
  | cons d r =>
    have h' : (smallB d && r.all behindB) = true := h
    rw [Bool.and_eq_true, List.all_eq_true] at h'
    intro c hc e
    subst e
    rcases List.mem_cons.1 hc with rfl | hc
    · have := h'.1; revert this; decide
    · have := h'.2 _ hc; revert this; decide
theorem isKey_word (l : List UInt8) : (wordL l && Lib.contains (wordsL keysL) (32 :: (l ++ [32]))) = keysL.contains l := by
  by_cases h : wordL l = true
  · rw [h, Bool.true_and, contains_words l (wordL_plain h) _ keysL_plain]
  · have h' : wordL l = false := Bool.eq_false_iff.2 h
    rw [h', Bool.false_and]
    rw [eq_comm, Bool.eq_false_iff]
    intro hc
    exact h (keysL_words l (by simpa using hc))
end Lx
namespace Lxw
open Gl Lx Glw

/-- What the lexer's functions ask of the world: the tables of unicode/utf8, and that internal/bytealg's MaxLen has a number. -/
def Env (w : World) : Prop := Glw.Tabs w ∧ ∃ m, w.cell? ⟨0, 0, none⟩ = some (.int .i64 m)
theorem Env.tabs {w : World} (h : Env w) : Glw.Tabs w := h.1
theorem lt_of_cell {w : World} {a : Addr} {v : Value} (h : w.cell? a = some v) : a.block < w.heap.size := by
  rcases Nat.lt_or_ge a.block w.heap.size with h' | h'
  · exact h'
  · simp [World.cell?, Array.getElem?_eq_none h'] at h
theorem Env.below {w w' : World} (h : Env w) (hb : Below w.heap.size w w') : Env w' :=
  ⟨Utf8Tabs_below h.1 hb, h.2.imp fun _ hm => (hb.cell (lt_of_cell hm)).trans hm⟩

set_option maxHeartbeats 400000 in
theorem goes (c : Int) (w : World) :
    Calls Tryd.prog 44 #[.int .u8 c] w fun e w' => e = .returned (.bool (behindZ c)) ∧ w = w' := by
  go_enter Tryd.func44, Tryd.ntmps44
  go_wp2
  all_goals (go_ret; exact ⟨ret_bool (by rw [Bool.eq_iff_iff]; simp [behindZ, inB]; omega), rfl⟩)

set_option maxHeartbeats 400000 in
theorem figure (c : Int) (w : World) :
    Calls Tryd.prog 45 #[.int .u8 c] w fun e w' => e = .returned (.bool (inB c 48 57)) ∧ w = w' := by
  go_enter Tryd.func45, Tryd.ntmps45
  go_wp2
  all_goals (go_ret; exact ⟨ret_bool (by simp [inB]; omega), rfl⟩)

set_option maxHeartbeats 400000 in
theorem isFigure (r : Int) (w : World) :
    Calls Tryd.prog 67 #[.int .i32 r] w fun e w' => e = .returned (.bool (inB r 48 57)) ∧ w = w' := by
  go_enter Tryd.func67, Tryd.ntmps67
  go_wp2
  all_goals (go_ret; exact ⟨ret_bool (by simp [inB]; omega), rfl⟩)

set_option maxHeartbeats 400000 in
theorem kind1 (r : Int) (w : World) :
    Calls Tryd.prog 71 #[.int .i32 r] w fun e w' => e = .returned (.bool (!inB r 48 57)) ∧ w = w' := by
  go_enter Tryd.func71, Tryd.ntmps71
  go_wp2_with (go_at_call 67; refine (isFigure _ _).mono ?_; rintro e w' ⟨rfl, rfl⟩)
  all_goals (go_ret; exact ⟨rfl, rfl⟩)

set_option maxHeartbeats 1000000 in
theorem word1 (r : Int) (w : World) :
    Calls Tryd.prog 66 #[.int .i32 r] w fun e w' => e = .returned (.bool (!behindZ r)) ∧ w = w' := by
  by_cases h : inB r 48 57 = true
  · go_enter Tryd.func66, Tryd.ntmps66
    go_wp2_with (go_at_call 67; refine (isFigure _ _).mono ?_; rintro e w' ⟨rfl, rfl⟩)
    all_goals (go_ret; exact ⟨ret_bool (by rw [Bool.eq_iff_iff]; simp [behindZ, h]), rfl⟩)
  · have h' : inB r 48 57 = false := Bool.eq_false_iff.2 h
    clear h
    go_enter Tryd.func66, Tryd.ntmps66
    go_wp2_with (go_at_call 67; refine (isFigure _ _).mono ?_; rintro e w' ⟨rfl, rfl⟩)
    all_goals (go_ret; exact ⟨ret_bool (by rw [Bool.eq_iff_iff]; simp [behindZ, h']; simp [inB]; omega), rfl⟩)

theorem keys_text (s : ByteArray) : (⟨#[32]⟩ ++ s ++ ⟨#[32]⟩ : ByteArray).data.toList = 32 :: (s.data.toList ++ [32]) := by
  rw [app_data, app_data]; rfl

set_option maxHeartbeats 1000000 in
set_option maxRecDepth 1000000 in
theorem IsKey (s : ByteArray) (w : World) (hs : s.size ≤ 17592186044416) (hE : Env w) :
    Calls Tryd.prog 14 #[.string s] w fun e w' => e = .returned (.bool (keysL.contains s.data.toList)) ∧ Below w.heap.size w w' := by
  obtain ⟨A, hA⟩ : ∃ A, keysL.contains s.data.toList = A := ⟨_, rfl⟩
  have hk := isKey_word s.data.toList
  rw [hA] at hk ⊢
  obtain ⟨V, hV⟩ : ∃ V, wordL s.data.toList = V := ⟨_, rfl⟩
  rw [hV] at hk
  cases V with
  | false =>
    rw [Bool.false_and] at hk
    subst hk
    clear hA
    go_enter Tryd.func14, Tryd.ntmps14
    go_wp2_with (go_at_call 25; refine (IsWord s _).mono ?_; rw [hV]; rintro e w1 ⟨rfl, b1⟩)
    go_ret
    exact ⟨rfl, b1⟩
  | true =>
    rw [Bool.true_and] at hk
    have hk' := Lib.hid hk
    clear hk hA
    have t1 : (9223372036854775807 < (ByteArray.mk #[32]).size + s.size) = False := by
      have : (ByteArray.mk #[32]).size = 1 := rfl
      rw [this]; simp; omega
    have t2 : (9223372036854775807 < (⟨#[32]⟩ ++ s : ByteArray).size + (ByteArray.mk #[32]).size) = False := by
      have : (ByteArray.mk #[32]).size = 1 := rfl
      rw [ByteArray.size_append, this]; simp; omega
    go_enter Tryd.func14, Tryd.ntmps14
    obtain ⟨m, hm⟩ := hE.2
    go_wp2_with (go_at_call 25; refine (IsWord s _).mono ?_; rw [hV]; rintro e w1 ⟨rfl, b1⟩)
    go_wp2_with (go_at_call 26; refine (Tryd.strings_Contains _ _ m _ ?_ ((b1.cell (lt_of_cell hm)).trans hm)).mono ?_; exact of_decide_eq_true (by kernel_rfl); rintro e w2 ⟨rfl, rfl⟩)
    go_ret
    have := hk'.out
    rw [← keys_text] at this
    exact ⟨ret_bool this, b1⟩
end Lxw
end Go.Proofs.YtelejpajnemmfaaDoor
