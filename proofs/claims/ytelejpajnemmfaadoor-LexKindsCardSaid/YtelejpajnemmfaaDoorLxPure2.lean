/-
  DERIVED. PLAIN LAWS OF LAYER 2 (lex), on: joined tokens are the same tokens; tokens rise; how each kind begins; a quoted text is one token. No program in sight.
-/
import Derived.Test.YtelejpajnemmfaaDoorLxPure
namespace Go.Proofs.YtelejpajnemmfaaDoor
namespace Lx
open Gl

def bytesK (k : Nat) (x : List UInt8) : List UInt8 := if k = 4 then quoteL x else x
theorem bytesOf_eq (t : Tok) : bytesOf t = bytesK t.kind t.text := rfl

theorem keys_are_words : ∀ x ∈ keysL, wordL x = true := by decide
theorem kindOf_range {w : List UInt8} {k : Nat} (h : kindOf w = some k) : k = 2 ∨ k = 6 ∨ k = 1 ∨ k = 3 := by
  unfold kindOf at h
  by_cases h1 : tagL w = true
  · rw [if_pos h1] at h; injection h with h; omega
  · rw [if_neg h1] at h
    by_cases h2 : keysL.contains w = true
    · rw [if_pos h2] at h; injection h with h; omega
    · rw [if_neg h2] at h
      by_cases h3 : wordL w = true
      · rw [if_pos h3] at h; injection h with h; omega
      · rw [if_neg h3] at h
        by_cases h4 : (w.all figB && decide (w.length ≤ 18)) = true
        · rw [if_pos h4] at h; injection h with h; omega
        · rw [if_neg h4] at h; cases h

theorem word_all (l : List UInt8) : ∀ c ∈ wordOf l, behindB c = true := by
  have := List.all_takeWhile (p := behindB) (l := l)
  rw [List.all_eq_true] at this
  exact this
theorem word_word (l : List UInt8) : wordOf (wordOf l) = wordOf l := by
  have h := word_all l
  generalize wordOf l = w at h
  induction w with
  | nil => rfl
  | cons c r ih =>
    unfold wordOf at ih ⊢
    rw [List.takeWhile_cons, h c (by simp), if_pos rfl, ih fun d hd => h d (by simp [hd])]
theorem behind_not {c : UInt8} (h : behindB c = true) : blankB c = false ∧ c.toNat ≠ 35 ∧ c.toNat ≠ 34 := by
  unfold behindB behindZ inB at h
  simp at h
  unfold blankB
  simp
  omega

/-- A token as bytes: it is that token, with all its bytes. -/
def GoodT (t : Tok) : Prop := ∃ c r, bytesOf t = c :: r ∧ blankB c = false ∧ c.toNat ≠ 35 ∧ oneL (c :: r) = some (t.kind, t.text, (c :: r).length)

def signOk (y : List UInt8) : Bool := match y with
  | [] => false
  | c :: r => !blankB c && (c.toNat != 35 && (oneL (c :: r) == some (5, c :: r, (c :: r).length) && c.toNat != 34))
theorem signs_good : ∀ y ∈ signsL, signOk y = true := by decide +kernel

theorem one_self {l x : List UInt8} {k n lo hi : Nat} (h : oneL l = some (k, x, n)) : GoodT ⟨k, x, lo, hi⟩ ∧ (bytesK k x).length ≤ 4 * n := by
  cases l with
  | nil => simp [oneL] at h
  | cons c r =>
    simp only [oneL] at h
    by_cases h1 : c.toNat = 34
    · rw [if_pos h1] at h
      cases hu : unqL r with
      | none => rw [hu] at h; simp at h
      | some p =>
        rw [hu] at h
        simp only [Option.map_some, Option.some.injEq, Prod.mk.injEq] at h
        obtain ⟨rfl, rfl, rfl⟩ := h
        have hb := unqL_bytes r.length r p.1 p.2 (Nat.le_refl _) hu
        have hq := oneL_quote p.1 []
        rw [List.append_nil] at hq
        refine ⟨⟨34, bodyL p.1 ++ [34], rfl, by decide, by decide, hq⟩, ?_⟩
        have := (quoteL_length p.1).1
        show (quoteL p.1).length ≤ _
        omega
    · rw [if_neg h1] at h
      by_cases h2 : wordOf (c :: r) = []
      · rw [if_pos h2] at h
        cases hs : signOf (c :: r) with
        | none => rw [hs] at h; simp at h
        | some y =>
          rw [hs] at h
          simp only [Option.map_some, Option.some.injEq, Prod.mk.injEq] at h
          obtain ⟨rfl, rfl, rfl⟩ := h
          have hg := signs_good y (signOf_some hs).1
          cases y with
          | nil => cases hg
          | cons d e =>
            simp only [signOk, Bool.and_eq_true, bne_iff_ne, Bool.not_eq_true', beq_iff_eq] at hg
            exact ⟨⟨d, e, rfl, hg.1, hg.2.1, hg.2.2.1⟩, by show (d :: e).length ≤ _; omega⟩
      · rw [if_neg h2] at h
        cases hk : kindOf (wordOf (c :: r)) with
        | none => rw [hk] at h; simp at h
        | some k' =>
          rw [hk] at h
          simp only [Option.map_some, Option.some.injEq, Prod.mk.injEq] at h
          obtain ⟨rfl, rfl, rfl⟩ := h
          have hk4 : ¬ k' = 4 := by have := kindOf_range hk; omega
          have hw := word_word (c :: r)
          have ha := word_all (c :: r)
          generalize wordOf (c :: r) = w at h2 hk hw ha
          have hb : bytesK k' w = w := if_neg hk4
          cases w with
          | nil => exact absurd rfl h2
          | cons d e =>
            have hd := behind_not (ha d (by simp))
            refine ⟨⟨d, e, hb, hd.1, hd.2.1, ?_⟩, by rw [hb]; omega⟩
            simp only [oneL]
            rw [if_neg hd.2.2, hw, if_neg h2, hk]
            rfl

/-- What a text's tokens are. -/
def KT (t : Tok) : Nat × List UInt8 := (t.kind, t.text)
theorem tokL_good : ∀ (n : Nat) (l : List UInt8) (pos : Nat) (ts : List Tok), l.length ≤ n → tokL pos l = .inr ts →
    ∃ vs e, ts = vs ++ [e] ∧ KT e = (0, []) ∧ (∀ t ∈ vs, GoodT t) ∧ (joinL ts).length ≤ 5 * l.length := by
  intro n
  induction n with
  | zero =>
    intro l pos ts hn h
    rcases tokL_inv h with ⟨_, h2⟩ | ⟨c, r, k, x, m, us', hd, _, _, _, _, _, _, hlen⟩
    · subst h2
      exact ⟨[], _, rfl, rfl, (fun t ht => by cases ht), by simp [joinL]⟩
    · simp only [List.length_cons] at hlen; omega
  | succ n ih =>
    intro l pos ts hn h
    rcases tokL_inv h with ⟨_, h2⟩ | ⟨c, r, k, x, m, us, hd, ho, ht, hne, h2, hm1, hm2, hlen⟩
    · subst h2
      exact ⟨[], _, rfl, rfl, (fun t ht => by cases ht), by simp [joinL]⟩
    · subst h2
      obtain ⟨vs, e, h3, h4, h5, h6⟩ := ih _ _ us (by rw [List.length_drop]; simp only [List.length_cons] at *; omega) ht
      obtain ⟨g1, g2⟩ := one_self (lo := pos + skipM false l) (hi := pos + skipM false l + m) ho
      refine ⟨⟨k, x, pos + skipM false l, pos + skipM false l + m⟩ :: vs, e, by rw [h3]; rfl, h4, fun t hm => ?_, ?_⟩
      · rcases List.mem_cons.1 hm with rfl | hm
        · exact g1
        · exact h5 t hm
      · rw [List.length_drop] at h6
        match us, hne, h6 with
        | [u], _, h6 =>
          simp only [joinL, bytesOf_eq]
          omega
        | u :: v :: r', _, h6 =>
          simp only [joinL, bytesOf_eq, List.length_append, List.length_cons] at h6 ⊢
          simp only [List.length_cons] at hm2 hlen
          omega

/-- There are no more tokens than bytes, and one. -/
theorem tokL_manyF : ∀ (n : Nat) (l : List UInt8) (pos : Nat) (ts : List Tok), l.length ≤ n → tokL pos l = .inr ts → ts.length ≤ l.length + 1 := by
  intro n
  induction n with
  | zero =>
    intro l pos ts hn h
    rcases tokL_inv h with ⟨_, h2⟩ | ⟨c, r, k, x, m, us', hd, _, _, _, _, _, _, hlen⟩
    · subst h2; simp
    · simp only [List.length_cons] at hlen; omega
  | succ n ih =>
    intro l pos ts hn h
    rcases tokL_inv h with ⟨_, h2⟩ | ⟨c, r, k, x, m, us, hd, ho, ht, hne, h2, hm1, hm2, hlen⟩
    · subst h2; simp
    · subst h2
      have := ih ((c :: r).drop m) _ us (by rw [List.length_drop]; simp only [List.length_cons] at *; omega) ht
      rw [List.length_drop] at this
      simp only [List.length_cons] at *
      omega
theorem tokL_many (l : List UInt8) (pos : Nat) (ts : List Tok) (h : tokL pos l = .inr ts) : ts.length ≤ l.length + 1 := tokL_manyF l.length l pos ts (Nat.le_refl _) h

theorem one_short {l x : List UInt8} {k n : Nat} (h : oneL l = some (k, x, n)) : x.length ≤ n := by
  cases l with
  | nil => simp [oneL] at h
  | cons c r =>
    simp only [oneL] at h
    by_cases h1 : c.toNat = 34
    · rw [if_pos h1] at h
      cases hu : unqL r with
      | none => rw [hu] at h; simp at h
      | some p =>
        rw [hu] at h
        simp only [Option.map_some, Option.some.injEq, Prod.mk.injEq] at h
        obtain ⟨rfl, rfl, rfl⟩ := h
        have hb := unqL_bytes r.length r p.1 p.2 (Nat.le_refl _) hu
        omega
    · rw [if_neg h1] at h
      by_cases h2 : wordOf (c :: r) = []
      · rw [if_pos h2] at h
        cases hs : signOf (c :: r) with
        | none => rw [hs] at h; simp at h
        | some y =>
          rw [hs] at h
          simp only [Option.map_some, Option.some.injEq, Prod.mk.injEq] at h
          obtain ⟨rfl, rfl, rfl⟩ := h
          exact Nat.le_refl _
      · rw [if_neg h2] at h
        cases hk : kindOf (wordOf (c :: r)) with
        | none => rw [hk] at h; simp at h
        | some k' =>
          rw [hk] at h
          simp only [Option.map_some, Option.some.injEq, Prod.mk.injEq] at h
          obtain ⟨rfl, rfl, rfl⟩ := h
          exact Nat.le_refl _
/-- No token's text is longer than all. -/
theorem tokL_textF : ∀ (n : Nat) (l : List UInt8) (pos : Nat) (ts : List Tok), l.length ≤ n → tokL pos l = .inr ts → ∀ t ∈ ts, t.text.length ≤ l.length := by
  intro n
  induction n with
  | zero =>
    intro l pos ts hn h
    rcases tokL_inv h with ⟨_, h2⟩ | ⟨c, r, k, x, m, us', hd, _, _, _, _, _, _, hlen⟩
    · subst h2
      intro t ht
      obtain rfl := List.mem_singleton.1 ht
      exact Nat.zero_le _
    · simp only [List.length_cons] at hlen; omega
  | succ n ih =>
    intro l pos ts hn h
    rcases tokL_inv h with ⟨_, h2⟩ | ⟨c, r, k, x, m, us, hd, ho, ht, hne, h2, hm1, hm2, hlen⟩
    · subst h2
      intro t ht
      obtain rfl := List.mem_singleton.1 ht
      exact Nat.zero_le _
    · subst h2
      have hi := ih ((c :: r).drop m) _ us (by rw [List.length_drop]; simp only [List.length_cons] at *; omega) ht
      have hs := one_short ho
      intro t hm
      rcases List.mem_cons.1 hm with rfl | hm
      · simp only [List.length_cons] at *; omega
      · have := hi t hm
        rw [List.length_drop] at this
        simp only [List.length_cons] at *; omega
theorem tokL_text (l : List UInt8) (pos : Nat) (ts : List Tok) (h : tokL pos l = .inr ts) : ∀ t ∈ ts, t.text.length ≤ l.length := tokL_textF l.length l pos ts (Nat.le_refl _) h

theorem tokL_nil (pos : Nat) : tokL pos [] = .inr [⟨0, [], pos, pos⟩] := rfl
/-- BACK. -/
theorem join_back : ∀ (vs : List Tok) (e : Tok) (pos : Nat), KT e = (0, []) → (∀ t ∈ vs, GoodT t) → ∃ us, tokL pos (joinL (vs ++ [e])) = .inr us ∧ us.map KT = (vs ++ [e]).map KT
  | [], e, pos, he, _ => ⟨_, tokL_nil pos, by simp [he]; rfl⟩
  | [t], e, pos, he, h => by
    obtain ⟨c, r, hb, h1, h2, h3⟩ := h t (by simp)
    have hj : joinL ([t] ++ [e]) = c :: r := hb
    have hs : skipM false (c :: r) = 0 := by simp only [skipM, h1, if_neg h2]; rfl
    rw [hj, tokL_more (c := c) (r := r) (by rw [hs]; rfl) h3, hs, List.drop_length, tokL_nil]
    exact ⟨_, rfl, by simp [he]; exact ⟨rfl, rfl⟩⟩
  | t :: u :: r', e, pos, he, h => by
    obtain ⟨c, r, hb, h1, h2, h3⟩ := h t (by simp)
    obtain ⟨us, k1, k2⟩ := join_back (u :: r') e (pos + 0 + (c :: r).length + 1) he fun t ht => h t (by simp [ht])
    have hj : joinL (t :: u :: r' ++ [e]) = (c :: r) ++ 32 :: joinL (u :: r' ++ [e]) := by
      rw [← hb]
      cases r' <;> rfl
    have hs : skipM false (c :: (r ++ 32 :: joinL (u :: r' ++ [e]))) = 0 := by simp only [skipM, h1, if_neg h2]; rfl
    have ho : oneL (c :: (r ++ 32 :: joinL (u :: r' ++ [e]))) = some (t.kind, t.text, (c :: r).length) := oneL_app (l := c :: r) (.inr ⟨32, _, rfl, .inl rfl⟩) h3
    have hd : (c :: (r ++ 32 :: joinL (u :: r' ++ [e]))).drop (c :: r).length = 32 :: joinL (u :: r' ++ [e]) := List.drop_left (l₁ := c :: r)
    have hk : tokL (pos + 0 + (c :: r).length) (32 :: joinL (u :: r' ++ [e])) = .inr us := by
      rw [tokL_skip (k := 1) (l' := joinL (u :: r' ++ [e])) _ (by simp [skipM, blankB]) rfl]; exact k1
    rw [hj, List.cons_append, tokL_more (c := c) (r := r ++ 32 :: joinL (u :: r' ++ [e])) (by rw [hs]; rfl) ho, hs, hd, hk]
    exact ⟨_, rfl, by simp only [List.map_cons, List.cons_append, k2]; rfl⟩

/-- LexBack, plain: whatever text has tokens, its tokens joined have the same kinds and texts. -/
theorem back_plain {l : List UInt8} {ts : List Tok} (h : tokL 0 l = .inr ts) : (∃ us, tokL 0 (joinL ts) = .inr us ∧ us.map KT = ts.map KT) ∧ (joinL ts).length ≤ 5 * l.length := by
  obtain ⟨vs, e, h3, h4, h5, h6⟩ := tokL_good l.length l 0 ts (Nat.le_refl _) h
  refine ⟨?_, h6⟩
  subst h3
  exact join_back vs e 0 h4 h5

/-- The bytes between two tokens: blanks and remarks alone. -/
def scanB : Bool → List UInt8 → Bool
  | _, [] => true
  | m, c :: r => (((m && c.toNat != 10) || c.toNat == 35) || blankB c) && scanB ((m && c.toNat != 10) || c.toNat == 35) r
theorem scan_skip : ∀ (l : List UInt8) (m : Bool), scanB m (l.take (skipM m l)) = true
  | [], m => by cases m <;> rfl
  | c :: r, m => by
    cases m
    · simp only [skipM]
      by_cases hb : blankB c = true
      · rw [if_pos hb, Nat.add_comm, List.take_succ_cons]
        have h35 : (c.toNat == 35) = false := by unfold blankB at hb; simp at hb ⊢; omega
        simp only [scanB, Bool.false_and, Bool.false_or, h35, hb, Bool.true_and]
        exact scan_skip r false
      · rw [if_neg hb]
        by_cases hc : c.toNat = 35
        · rw [if_pos hc, Nat.add_comm, List.take_succ_cons]
          simp only [scanB, hc, Bool.false_and, Bool.false_or, beq_self_eq_true, Bool.true_or, Bool.true_and]
          exact scan_skip r true
        · rw [if_neg hc]; rfl
    · simp only [skipM]
      by_cases hc : c.toNat = 10
      · rw [if_pos hc, Nat.add_comm, List.take_succ_cons]
        simp only [scanB, hc, blankB]
        exact scan_skip r false
      · rw [if_neg hc, Nat.add_comm, List.take_succ_cons]
        have : (c.toNat != 10) = true := by rw [bne_iff_ne]; exact hc
        simp only [scanB, this, Bool.true_and, Bool.true_or]
        exact scan_skip r true

/-- WHOLE, of the tokens from a place on. -/
def Whole (s : List UInt8) : Nat → List Tok → Prop
  | _, [] => False
  | p, t :: ts => p ≤ t.lo ∧ t.lo ≤ t.hi ∧ t.hi ≤ s.length ∧ (t.lo = t.hi ↔ ts = []) ∧ (t.kind = 0 ↔ ts = []) ∧ scanB false ((s.drop p).take (t.lo - p)) = true ∧
    (t.kind ≠ 4 → t.text = (s.drop t.lo).take (t.hi - t.lo)) ∧ (ts = [] → t.hi = s.length) ∧ (ts ≠ [] → Whole s t.hi ts)

theorem one_text {l x : List UInt8} {k n : Nat} (h : oneL l = some (k, x, n)) : k ≠ 0 ∧ (k ≠ 4 → x = l.take n) := by
  cases l with
  | nil => simp [oneL] at h
  | cons c r =>
    simp only [oneL] at h
    by_cases h1 : c.toNat = 34
    · rw [if_pos h1] at h
      cases hu : unqL r with
      | none => rw [hu] at h; simp at h
      | some p =>
        rw [hu] at h
        simp only [Option.map_some, Option.some.injEq, Prod.mk.injEq] at h
        obtain ⟨rfl, rfl, rfl⟩ := h
        exact ⟨by omega, fun h => absurd rfl h⟩
    · rw [if_neg h1] at h
      by_cases h2 : wordOf (c :: r) = []
      · rw [if_pos h2] at h
        cases hs : signOf (c :: r) with
        | none => rw [hs] at h; simp at h
        | some y =>
          rw [hs] at h
          simp only [Option.map_some, Option.some.injEq, Prod.mk.injEq] at h
          obtain ⟨rfl, rfl, rfl⟩ := h
          exact ⟨by omega, fun _ => List.prefix_iff_eq_take.1 (List.isPrefixOf_iff_prefix.1 (signOf_some hs).2)⟩
      · rw [if_neg h2] at h
        cases hk : kindOf (wordOf (c :: r)) with
        | none => rw [hk] at h; simp at h
        | some k' =>
          rw [hk] at h
          simp only [Option.map_some, Option.some.injEq, Prod.mk.injEq] at h
          obtain ⟨rfl, rfl, rfl⟩ := h
          exact ⟨by have := kindOf_range hk; omega, fun _ => List.prefix_iff_eq_take.1 (List.takeWhile_prefix _)⟩

theorem tokL_whole (s : List UInt8) : ∀ (n : Nat) (l : List UInt8) (pos : Nat) (ts : List Tok), l.length ≤ n → s.drop pos = l → pos ≤ s.length → tokL pos l = .inr ts → Whole s pos ts := by
  intro n
  induction n with
  | zero =>
    intro l pos ts hn hd hp h
    rcases tokL_inv h with ⟨hd2, h2⟩ | ⟨c, r, k, x, m, us', hd', _, _, _, _, _, _, hlen⟩
    · have hl : l = [] := List.eq_nil_of_length_eq_zero (by omega)
      have hle := congrArg List.length hd
      rw [List.length_drop, hl] at hle
      have h0 : skipM false l = 0 := by rw [hl]; rfl
      have he : pos = s.length := by simp at hle; omega
      subst h2
      rw [h0]
      refine ⟨by simp, by simp, by simp; omega, by simp, by simp, by simp [scanB], fun _ => by simp, fun _ => by simp [he], fun h => absurd rfl h⟩
    · simp only [List.length_cons] at hlen; omega
  | succ n ih =>
    intro l pos ts hn hd hp h
    have hle := congrArg List.length hd
    rw [List.length_drop] at hle
    have hsk := skipM_le l false
    have hsc : scanB false ((s.drop pos).take (pos + skipM false l - pos)) = true := by rw [hd, Nat.add_sub_cancel_left]; exact scan_skip l false
    rcases tokL_inv h with ⟨hd2, h2⟩ | ⟨c, r, k, x, m, us, hd', ho, ht, hne, h2, hm1, hm2, hlen⟩
    · have hl2 := congrArg List.length hd2
      rw [List.length_drop] at hl2
      simp only [List.length_nil] at hl2
      subst h2
      exact ⟨by simp, by simp, by simp; omega, by simp, by simp, hsc, fun _ => by simp, fun _ => by simp; omega, fun h => absurd rfl h⟩
    · subst h2
      obtain ⟨hk, htx⟩ := one_text ho
      have hs1 : s.drop (pos + skipM false l) = c :: r := by rw [← List.drop_drop, hd, hd']
      have hs2 : s.drop (pos + skipM false l + m) = (c :: r).drop m := by rw [← List.drop_drop, hs1]
      simp only [List.length_cons] at hm2 hlen
      refine ⟨by simp, by simp, by simp; omega, ⟨fun h => by simp at h; omega, fun h => absurd h hne⟩, ⟨fun h => absurd h hk, fun h => absurd h hne⟩, hsc, fun h => ?_, fun h => absurd h hne, fun _ => ?_⟩
      · show x = _
        rw [htx h]
        simp only [hs1, Nat.add_sub_cancel_left]
      · exact ih ((c :: r).drop m) (pos + skipM false l + m) us (by rw [List.length_drop]; simp only [List.length_cons]; omega) hs2 (by omega) ht

/-- How a token of each kind begins. -/
def Begins (k : Nat) (x : List UInt8) (c : UInt8) : Prop := 1 ≤ k ∧ k ≤ 6 ∧ (k = 2 ↔ greatB c = true) ∧ (k = 4 ↔ c.toNat = 34) ∧ (k = 3 ↔ figB c = true) ∧ ((k = 1 ∨ k = 6) ↔ smallB c = true) ∧
  (smallB c = true → (k = 6 ↔ keysL.contains x = true)) ∧ (k = 2 → tagL x = true) ∧ (smallB c = true → wordL x = true) ∧ (figB c = true → x.length ≤ 18)
def OneKind (s : List UInt8) (t : Tok) : Prop := t.kind = 0 ∨ ∃ c, s[t.lo]? = some c ∧ Begins t.kind t.text c

theorem one_begins {c : UInt8} {r x : List UInt8} {k n : Nat} (h : oneL (c :: r) = some (k, x, n)) : Begins k x c := by
  simp only [oneL] at h
  have hG : greatB c = true ↔ 65 ≤ c.toNat ∧ c.toNat ≤ 90 := by unfold greatB; rw [inB_iff]; omega
  have hS : smallB c = true ↔ 97 ≤ c.toNat ∧ c.toNat ≤ 122 := by unfold smallB; rw [inB_iff]; omega
  have hF : figB c = true ↔ 48 ≤ c.toNat ∧ c.toNat ≤ 57 := by unfold figB; rw [inB_iff]; omega
  have hB : behindB c = true ↔ (97 ≤ c.toNat ∧ c.toNat ≤ 122) ∨ (65 ≤ c.toNat ∧ c.toNat ≤ 90) ∨ (48 ≤ c.toNat ∧ c.toNat ≤ 57) ∨ c.toNat = 95 := by
    unfold behindB behindZ; simp only [Bool.or_eq_true, inB_iff, decide_eq_true_iff]; omega
  by_cases h1 : c.toNat = 34
  · rw [if_pos h1] at h
    cases hu : unqL r with
    | none => rw [hu] at h; simp at h
    | some p =>
      rw [hu] at h
      simp only [Option.map_some, Option.some.injEq, Prod.mk.injEq] at h
      obtain ⟨rfl, rfl, rfl⟩ := h
      refine ⟨by omega, by omega, ?_, ?_, ?_, ?_, ?_, ?_, ?_, ?_⟩
      · rw [hG]; omega
      · omega
      · rw [hF]; omega
      · rw [hS]; omega
      · rw [hS]; omega
      · omega
      · rw [hS]; omega
      · rw [hF]; omega
  · rw [if_neg h1] at h
    by_cases h2 : wordOf (c :: r) = []
    · have hnb : ¬ behindB c = true := fun hb => by
        unfold wordOf at h2
        rw [List.takeWhile_cons, if_pos hb] at h2; cases h2
      rw [hB] at hnb
      rw [if_pos h2] at h
      cases hs : signOf (c :: r) with
      | none => rw [hs] at h; simp at h
      | some y =>
        rw [hs] at h
        simp only [Option.map_some, Option.some.injEq, Prod.mk.injEq] at h
        obtain ⟨rfl, rfl, rfl⟩ := h
        refine ⟨by omega, by omega, ?_, ?_, ?_, ?_, ?_, ?_, ?_, ?_⟩
        · rw [hG]; omega
        · omega
        · rw [hF]; omega
        · rw [hS]; omega
        · rw [hS]; omega
        · omega
        · rw [hS]; omega
        · rw [hF]; omega
    · rw [if_neg h2] at h
      cases hk : kindOf (wordOf (c :: r)) with
      | none => rw [hk] at h; simp at h
      | some k' =>
        rw [hk] at h
        simp only [Option.map_some, Option.some.injEq, Prod.mk.injEq] at h
        obtain ⟨rfl, rfl, rfl⟩ := h
        have hb : behindB c = true := by
          rcases Bool.eq_false_or_eq_true (behindB c) with hb | hb
          · exact hb
          · exact absurd (by unfold wordOf; rw [List.takeWhile_cons, hb]; rfl) h2
        have hw : wordOf (c :: r) = c :: wordOf r := by unfold wordOf; rw [List.takeWhile_cons, if_pos hb]
        have hall : (wordOf r).all behindB = true := List.all_eq_true.2 (word_all r)
        rw [hw] at hk ⊢
        have hT : tagL (c :: wordOf r) = greatB c := by show (greatB c && _) = _; rw [hall, Bool.and_true]
        have hW : wordL (c :: wordOf r) = smallB c := by show (smallB c && _) = _; rw [hall, Bool.and_true]
        have hK : keysL.contains (c :: wordOf r) = true → smallB c = true := fun h => by rw [← hW]; exact keys_are_words _ (by simpa using h)
        rw [hB] at hb
        unfold kindOf at hk
        rw [hT, hW] at hk
        by_cases g : greatB c = true
        · rw [if_pos g] at hk
          injection hk with hk; subst hk
          rw [hG] at g
          refine ⟨by omega, by omega, ?_, ?_, ?_, ?_, ?_, ?_, ?_, ?_⟩
          · rw [hG]; omega
          · omega
          · rw [hF]; omega
          · rw [hS]; omega
          · rw [hS]; omega
          · intro _; rw [hT, hG]; exact g
          · rw [hS]; omega
          · rw [hF]; omega
        · rw [if_neg g] at hk
          rw [hG] at g
          by_cases s : smallB c = true
          · by_cases k6 : keysL.contains (c :: wordOf r) = true
            · rw [if_pos k6] at hk
              injection hk with hk; subst hk
              have s' := s
              rw [hS] at s'
              refine ⟨by omega, by omega, ?_, ?_, ?_, ?_, ?_, ?_, ?_, ?_⟩
              · rw [hG]; omega
              · omega
              · rw [hF]; omega
              · exact ⟨fun _ => s, fun _ => .inr rfl⟩
              · exact fun _ => ⟨fun _ => k6, fun _ => rfl⟩
              · omega
              · intro _; rw [hW]; exact s
              · rw [hF]; omega
            · rw [if_neg k6, if_pos s] at hk
              injection hk with hk; subst hk
              have s' := s
              rw [hS] at s'
              refine ⟨by omega, by omega, ?_, ?_, ?_, ?_, ?_, ?_, ?_, ?_⟩
              · rw [hG]; omega
              · omega
              · rw [hF]; omega
              · exact ⟨fun _ => s, fun _ => .inl rfl⟩
              · exact fun _ => ⟨fun h => by omega, fun h => absurd h k6⟩
              · omega
              · intro _; rw [hW]; exact s
              · rw [hF]; omega
          · have k6 : ¬ keysL.contains (c :: wordOf r) = true := fun h => s (hK h)
            rw [if_neg k6, if_neg s] at hk
            by_cases f : ((c :: wordOf r).all figB && decide ((c :: wordOf r).length ≤ 18)) = true
            · rw [if_pos f] at hk
              injection hk with hk; subst hk
              rw [Bool.and_eq_true, decide_eq_true_iff, List.all_cons, Bool.and_eq_true] at f
              have f1 := hF.1 f.1.1
              refine ⟨by omega, by omega, ?_, ?_, ?_, ?_, ?_, ?_, ?_, ?_⟩
              · rw [hG]; omega
              · omega
              · exact ⟨fun _ => f.1.1, fun _ => rfl⟩
              · rw [hS]; omega
              · rw [hS]; omega
              · omega
              · rw [hS]; omega
              · exact fun _ => f.2
            · rw [if_neg f] at hk; cases hk

theorem tokL_kinds (s : List UInt8) : ∀ (n : Nat) (l : List UInt8) (pos : Nat) (ts : List Tok), l.length ≤ n → s.drop pos = l → tokL pos l = .inr ts → ∀ t ∈ ts, OneKind s t := by
  intro n
  induction n with
  | zero =>
    intro l pos ts hn hd h
    rcases tokL_inv h with ⟨_, h2⟩ | ⟨c, r, k, x, m, us', hd', _, _, _, _, _, _, hlen⟩
    · subst h2
      intro t ht
      obtain rfl := List.mem_singleton.1 ht
      exact .inl rfl
    · simp only [List.length_cons] at hlen; omega
  | succ n ih =>
    intro l pos ts hn hd h
    rcases tokL_inv h with ⟨_, h2⟩ | ⟨c, r, k, x, m, us, hd', ho, ht, hne, h2, hm1, hm2, hlen⟩
    · subst h2
      intro t ht
      obtain rfl := List.mem_singleton.1 ht
      exact .inl rfl
    · subst h2
      have hs1 : s.drop (pos + skipM false l) = c :: r := by rw [← List.drop_drop, hd, hd']
      have hs2 : s.drop (pos + skipM false l + m) = (c :: r).drop m := by rw [← List.drop_drop, hs1]
      intro t hm
      rcases List.mem_cons.1 hm with rfl | hm
      · refine .inr ⟨c, ?_, one_begins ho⟩
        show s[pos + skipM false l]? = some c
        have := congrArg (fun l : List UInt8 => l[0]?) hs1
        simpa using this
      · exact ih _ _ us (by rw [List.length_drop]; simp only [List.length_cons] at *; omega) hs2 ht t hm

/-- QUOTED: a quoted text is one token; behind it all goes as alone. -/
theorem tokL_quoted (a s : List UInt8) : tokL 0 (quoteL a ++ s) = match tokL 0 s with
    | .inl e => .inl (e + (quoteL a).length)
    | .inr ts => .inr (⟨4, a, 0, (quoteL a).length⟩ :: ts.map (shiftT (quoteL a).length)) := by
  obtain ⟨r, hr⟩ : ∃ r, quoteL a ++ s = 34 :: r := ⟨_, rfl⟩
  have ho := oneL_quote a s
  rw [hr] at ho ⊢
  have hs : skipM false (34 :: r) = 0 := rfl
  rw [tokL_more (c := 34) (r := r) (by rw [hs]; rfl) ho, hs, ← hr, List.drop_left, Nat.zero_add]
  have := tokL_shift (quoteL a).length 0 s
  rw [Nat.zero_add] at this
  rw [this]
  cases tokL 0 s with
  | inl e => simp [shiftR]
  | inr ts => simp [shiftR]
end Lx
end Go.Proofs.YtelejpajnemmfaaDoor
