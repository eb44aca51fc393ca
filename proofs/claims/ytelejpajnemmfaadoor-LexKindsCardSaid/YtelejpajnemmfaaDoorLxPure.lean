/-
  DERIVED. PLAIN LAWS OF LAYER 2 (lex): a token stays the same whatever stands behind a blank; tokens move with their text; joined tokens are the same tokens. No program in sight.
-/
import Derived.Test.YtelejpajnemmfaaDoorLx
namespace Go.Proofs.YtelejpajnemmfaaDoor
namespace Lx
open Gl

theorem escL_app {l : List UInt8} {q : UInt8 × Nat} (h : escL l = some q) (x : List UInt8) : escL (l ++ x) = some q ∧ q.2 ≤ l.length := by
  cases l with
  | nil => simp [escL] at h
  | cons c r =>
    rw [List.cons_append]
    simp only [escL] at h ⊢
    by_cases h1 : c.toNat = 92 ∨ c.toNat = 34
    · rw [if_pos h1] at h ⊢
      injection h with h; subst h; exact ⟨rfl, by simp⟩
    · rw [if_neg h1] at h ⊢
      by_cases h2 : c.toNat = 110
      · rw [if_pos h2] at h ⊢
        injection h with h; subst h; exact ⟨rfl, by simp⟩
      · rw [if_neg h2] at h ⊢
        by_cases h3 : c.toNat = 116
        · rw [if_pos h3] at h ⊢
          injection h with h; subst h; exact ⟨rfl, by simp⟩
        · rw [if_neg h3] at h ⊢
          by_cases h4 : c.toNat = 120
          · rw [if_pos h4] at h ⊢
            match r, h with
            | a :: b :: r', h =>
              simp only [List.cons_append] at h ⊢
              refine ⟨h, ?_⟩
              cases ha : hexV a with
              | none => rw [ha] at h; simp at h
              | some u => cases hb : hexV b with
                | none => rw [ha, hb] at h; simp at h
                | some v =>
                  rw [ha, hb] at h
                  simp only [Option.some.injEq] at h
                  subst h; simp
          · rw [if_neg h4] at h; simp at h

theorem unqL_app : ∀ (n : Nat) (l x : List UInt8) (q : List UInt8 × Nat), l.length ≤ n → unqL l = some q → unqL (l ++ x) = some q := by
  intro n
  induction n with
  | zero => intro l x q hl h; cases l with
    | nil => simp [unqL_nil] at h
    | cons c r => simp at hl
  | succ n ih => intro l x q hl h; cases l with
    | nil => simp [unqL_nil] at h
    | cons c r =>
      rw [unqL_cons] at h
      rw [List.cons_append, unqL_cons]
      by_cases h1 : c.toNat = 34
      · rw [if_pos h1] at h ⊢; exact h
      · rw [if_neg h1] at h ⊢
        by_cases h2 : longL (c :: r) = 0 ∨ c.toNat < 32 ∨ c.toNat = 127
        · rw [if_pos h2] at h; simp at h
        · rw [if_neg h2] at h
          have hl0 : longL (c :: r) ≠ 0 := fun e => h2 (.inl e)
          have ha := long_append (c :: r) x hl0
          rw [List.cons_append] at ha
          rw [ha, if_neg h2]
          by_cases h3 : c.toNat = 92
          · rw [if_pos h3] at h ⊢
            cases he : escL r with
            | none => rw [he] at h; simp at h
            | some p =>
              obtain ⟨y, m⟩ := p
              obtain ⟨e1, e2⟩ := escL_app he x
              rw [he] at h
              rw [e1]
              simp only at h e2 ⊢
              cases hu : unqL (r.drop m) with
              | none => rw [hu] at h; simp at h
              | some q' =>
                rw [hu] at h
                have := ih (r.drop m) x q' (by simp only [List.length_drop, List.length_cons] at *; omega) hu
                rw [List.drop_append_of_le_length e2, this]; exact h
          · rw [if_neg h3] at h ⊢
            have hle := (longL_le (c :: r)).1
            cases hu : unqL ((c :: r).drop (longL (c :: r))) with
            | none => rw [hu] at h; simp at h
            | some q' =>
              rw [hu] at h
              have := ih _ x q' (by simp only [List.length_drop, List.length_cons] at *; omega) hu
              rw [← List.cons_append, List.drop_append_of_le_length hle, List.take_append_of_le_length hle, this]; exact h

/-- What may stand behind a token and leaves it as it is: nothing, a blank, a line's end. -/
def Sep (l : List UInt8) : Prop := l = [] ∨ ∃ c r, l = c :: r ∧ (c = 32 ∨ c = 10)

theorem wordOf_app {x : List UInt8} (hx : Sep x) : ∀ l, wordOf (l ++ x) = wordOf l
  | [] => by
    rcases hx with rfl | ⟨c, r, rfl, rfl | rfl⟩
    · rfl
    · simp [wordOf, show behindB 32 = false from by decide]
    · simp [wordOf, show behindB 10 = false from by decide]
  | c :: l => by
    have ih := wordOf_app hx l
    unfold wordOf at ih ⊢
    rw [List.cons_append, List.takeWhile_cons, List.takeWhile_cons, ih]

def okSign : List UInt8 → Bool
  | [_] => true
  | [_, b] => b != 32 && b != 10
  | _ => false
theorem signs_ok : ∀ y ∈ signsL, okSign y = true := by decide
theorem sign_prefix {y l x : List UInt8} (hy : okSign y = true) (hl : l ≠ []) (hx : Sep x) : y.isPrefixOf (l ++ x) = y.isPrefixOf l := by
  match y, l, hl, hy with
  | [a], c :: l, _, _ => simp [List.isPrefixOf]
  | [a, b], [c], _, hy =>
    simp only [okSign, Bool.and_eq_true, bne_iff_ne] at hy
    rcases hx with rfl | ⟨d, r, rfl, rfl | rfl⟩
    · simp
    · simp [List.isPrefixOf, hy.1]
    · simp [List.isPrefixOf, hy.2]
  | [a, b], c :: d :: l, _, _ => simp [List.isPrefixOf]
theorem find_same {p q : List UInt8 → Bool} : ∀ {l : List (List UInt8)}, (∀ y ∈ l, p y = q y) → l.find? p = l.find? q
  | [], _ => rfl
  | a :: l, h => by
    rw [List.find?_cons, List.find?_cons, h a (by simp), find_same fun y hy => h y (by simp [hy])]
theorem signOf_app {l x : List UInt8} (hl : l ≠ []) (hx : Sep x) : signOf (l ++ x) = signOf l :=
  find_same fun y hy => sign_prefix (signs_ok y hy) hl hx

theorem oneL_app {l x : List UInt8} {q : Nat × List UInt8 × Nat} (hx : Sep x) (h : oneL l = some q) : oneL (l ++ x) = some q := by
  cases l with
  | nil => simp [oneL] at h
  | cons c r =>
    rw [List.cons_append]
    simp only [oneL] at h ⊢
    by_cases h1 : c.toNat = 34
    · rw [if_pos h1] at h ⊢
      cases hu : unqL r with
      | none => rw [hu] at h; simp at h
      | some p => rw [unqL_app r.length r x p (Nat.le_refl _) hu]; rw [hu] at h; exact h
    · rw [if_neg h1] at h ⊢
      have hw := wordOf_app hx (c :: r)
      rw [List.cons_append] at hw
      rw [hw]
      have hs := signOf_app (l := c :: r) (by simp) hx
      rw [List.cons_append] at hs
      rw [hs]; exact h

theorem oneL_quote (a s : List UInt8) : oneL (quoteL a ++ s) = some (4, a, (quoteL a).length) := by
  have : quoteL a ++ s = 34 :: (bodyL a ++ 34 :: s) := by unfold quoteL; simp
  rw [this]
  simp only [oneL]
  rw [if_pos (by decide), unq_body]
  simp [quoteL]

/-- What stands between, and is not all, is the same whatever stands behind. -/
theorem skip_stays (x : List UInt8) : ∀ (a : List UInt8) (m : Bool), a.drop (skipM m a) ≠ [] → skipM m (a ++ x) = skipM m a
  | [], m, h => by simp at h
  | c :: a, m, h => by
    rw [List.cons_append]
    cases m
    · simp only [skipM] at h ⊢
      by_cases hb : blankB c = true
      · rw [if_pos hb] at h ⊢
        rw [if_pos hb, skip_stays x a false (by rw [Nat.add_comm, List.drop_succ_cons] at h; exact h)]
      · rw [if_neg hb] at h ⊢
        rw [if_neg hb]
        by_cases hc : c.toNat = 35
        · rw [if_pos hc] at h ⊢
          rw [if_pos hc, skip_stays x a true (by rw [Nat.add_comm, List.drop_succ_cons] at h; exact h)]
        · rw [if_neg hc, if_neg hc]
    · simp only [skipM] at h ⊢
      by_cases hc : c.toNat = 10
      · rw [if_pos hc] at h ⊢
        rw [if_pos hc, skip_stays x a false (by rw [Nat.add_comm, List.drop_succ_cons] at h; exact h)]
      · rw [if_neg hc] at h ⊢
        rw [if_neg hc, skip_stays x a true (by rw [Nat.add_comm, List.drop_succ_cons] at h; exact h)]
/-- What stands between, and is all of a text, goes on behind a line's end. -/
theorem skip_all (b : List UInt8) : ∀ (a : List UInt8) (m : Bool), a.drop (skipM m a) = [] → skipM m (a ++ 10 :: b) = a.length + 1 + skipM false b
  | [], m, _ => by cases m <;> simp [skipM, blankB]
  | c :: a, m, h => by
    rw [List.cons_append]
    cases m
    · simp only [skipM, List.length_cons] at h ⊢
      by_cases hb : blankB c = true
      · rw [if_pos hb] at h
        rw [if_pos hb, skip_all b a false (by rw [Nat.add_comm, List.drop_succ_cons] at h; exact h)]; omega
      · rw [if_neg hb] at h
        rw [if_neg hb]
        by_cases hc : c.toNat = 35
        · rw [if_pos hc] at h
          rw [if_pos hc, skip_all b a true (by rw [Nat.add_comm, List.drop_succ_cons] at h; exact h)]; omega
        · rw [if_neg hc] at h; simp at h
    · simp only [skipM, List.length_cons] at h ⊢
      by_cases hc : c.toNat = 10
      · rw [if_pos hc] at h
        rw [if_pos hc, skip_all b a false (by rw [Nat.add_comm, List.drop_succ_cons] at h; exact h)]; omega
      · rw [if_neg hc] at h
        rw [if_neg hc, skip_all b a true (by rw [Nat.add_comm, List.drop_succ_cons] at h; exact h)]; omega

/-- Tokens, moved. -/
def shiftT (d : Nat) (t : Tok) : Tok := ⟨t.kind, t.text, t.lo + d, t.hi + d⟩
def shiftR (d : Nat) : Sum Nat (List Tok) → Sum Nat (List Tok)
  | .inl e => .inl (e + d)
  | .inr ts => .inr (ts.map (shiftT d))
theorem tokF_shift (d : Nat) : ∀ (n pos : Nat) (l : List UInt8), tokF n (pos + d) l = shiftR d (tokF n pos l)
  | 0, pos, l => rfl
  | n + 1, pos, l => by
    rw [tokF_succ, tokF_succ]
    cases hd : l.drop (skipM false l) with
    | nil => simp only [shiftR, shiftT, List.map_cons, List.map_nil]; rw [Nat.add_right_comm]
    | cons c r =>
      simp only
      cases ho : oneL (c :: r) with
      | none => simp only [shiftR]; congr 1; omega
      | some q =>
        obtain ⟨k, x, m⟩ := q
        simp only
        rw [show pos + d + skipM false l + m = pos + skipM false l + m + d from by omega, tokF_shift d n]
        cases tokF n (pos + skipM false l + m) ((c :: r).drop m) with
        | inl e => rfl
        | inr ts =>
          simp only [shiftR, List.map_cons, shiftT]
          congr 3; omega
theorem tokL_shift (d pos : Nat) (l : List UInt8) : tokL (pos + d) l = shiftR d (tokL pos l) := tokF_shift d _ _ _

theorem tokL_skip {k : Nat} {l l' : List UInt8} (pos : Nat) (h : skipM false l = k + skipM false l') (hd : l.drop k = l') : tokL pos l = tokL (pos + k) l' := by
  rw [tokL_step, tokL_step (pos + k), h, ← List.drop_drop, hd, Nat.add_assoc pos k]

theorem tokL_ne {pos : Nat} {l : List UInt8} {ts : List Tok} (h : tokL pos l = .inr ts) : ts ≠ [] := by
  rw [tokL_step] at h
  cases hd : l.drop (skipM false l) with
  | nil => rw [hd] at h; simp only [Sum.inr.injEq] at h; subst h; simp
  | cons c r =>
    rw [hd] at h
    simp only at h
    cases ho : oneL (c :: r) with
    | none => rw [ho] at h; simp at h
    | some q =>
      obtain ⟨k, x, m⟩ := q
      rw [ho] at h
      simp only at h
      cases ht : tokL (pos + skipM false l + m) ((c :: r).drop m) with
      | inl e => rw [ht] at h; simp at h
      | inr us => rw [ht] at h; simp only [Sum.inr.injEq] at h; subst h; simp

/-- By tokens: the last one, or one ahead of others. -/
theorem tokL_inv {pos : Nat} {l : List UInt8} {ts : List Tok} (h : tokL pos l = .inr ts) :
    (l.drop (skipM false l) = [] ∧ ts = [⟨0, [], pos + skipM false l, pos + skipM false l⟩]) ∨
    ∃ c r k x m us, l.drop (skipM false l) = c :: r ∧ oneL (c :: r) = some (k, x, m) ∧ tokL (pos + skipM false l + m) ((c :: r).drop m) = .inr us ∧ us ≠ [] ∧
      ts = ⟨k, x, pos + skipM false l, pos + skipM false l + m⟩ :: us ∧ 1 ≤ m ∧ m ≤ (c :: r).length ∧ skipM false l + (c :: r).length = l.length := by
  rw [tokL_step] at h
  cases hd : l.drop (skipM false l) with
  | nil => rw [hd] at h; simp only [Sum.inr.injEq] at h; exact .inl ⟨rfl, h.symm⟩
  | cons c r =>
    have hle := congrArg List.length hd
    rw [List.length_drop] at hle
    have hsk := skipM_le l false
    rw [hd] at h
    simp only at h
    cases ho : oneL (c :: r) with
    | none => rw [ho] at h; simp at h
    | some q =>
      obtain ⟨k, x, m⟩ := q
      rw [ho] at h
      simp only at h
      have hl := oneL_len ho
      cases ht : tokL (pos + skipM false l + m) ((c :: r).drop m) with
      | inl e => rw [ht] at h; simp at h
      | inr us =>
        rw [ht] at h; simp only [Sum.inr.injEq] at h
        exact .inr ⟨c, r, k, x, m, us, rfl, ho, ht, tokL_ne ht, h.symm, hl.1, hl.2, by simp only [List.length_cons] at *; omega⟩

theorem dropLast_cons {t : Tok} {ts : List Tok} (h : ts ≠ []) : (t :: ts).dropLast = t :: ts.dropLast := by
  cases ts with
  | nil => exact absurd rfl h
  | cons u us => rfl

/-- CUTS. -/
theorem tokL_cut (b : List UInt8) (us : List Tok) : ∀ (n : Nat) (a : List UInt8) (pos : Nat) (ts : List Tok), a.length ≤ n → tokL pos a = .inr ts → tokL (pos + (a.length + 1)) b = .inr us →
    tokL pos (a ++ 10 :: b) = .inr (ts.dropLast ++ us) := by
  intro n
  induction n with
  | zero =>
    intro a pos ts hn h hb
    cases a with
    | nil =>
      have hs : skipM false ([] ++ 10 :: b) = 1 + skipM false b := by simp [skipM, blankB]
      rw [tokL_skip pos hs (l' := b) rfl]
      rcases tokL_inv h with ⟨_, h2⟩ | ⟨c, r, k, x, m, us', hd, _⟩
      · subst h2
        have : pos + 1 = pos + (([] : List UInt8).length + 1) := rfl
        rw [this, hb]; rfl
      · simp at hd
    | cons c r => simp at hn
  | succ n ih =>
    intro a pos ts hn h hb
    rcases tokL_inv h with ⟨hd, h2⟩ | ⟨c, r, k, x, m, us', hd, ho, ht, hne, h2, hm1, hm2, hlen⟩
    · subst h2
      have hs := skip_all b a false hd
      rw [tokL_skip (k := a.length + 1) (l' := b) pos hs (by rw [List.drop_append, List.drop_eq_nil_of_le (by omega), Nat.add_sub_cancel_left]; rfl), hb]; rfl
    · subst h2
      have hs := skip_stays (10 :: b) a false (by rw [hd]; simp)
      have hd' : (a ++ 10 :: b).drop (skipM false (a ++ 10 :: b)) = c :: (r ++ 10 :: b) := by
        rw [hs, List.drop_append_of_le_length (skipM_le a false), hd]; rfl
      have ho' : oneL (c :: (r ++ 10 :: b)) = some (k, x, m) := oneL_app (l := c :: r) (x := 10 :: b) (.inr ⟨10, b, rfl, .inr rfl⟩) ho
      rw [tokL_more hd' ho', hs]
      have e1 : (c :: (r ++ 10 :: b)).drop m = (c :: r).drop m ++ 10 :: b := List.drop_append_of_le_length (l₁ := c :: r) hm2
      rw [e1, ih ((c :: r).drop m) _ us' (by rw [List.length_drop]; simp only [List.length_cons] at *; omega) ht (by
        rw [← hb]; congr 1; rw [List.length_drop]; omega)]
      rw [dropLast_cons hne]
      rfl
end Lx
end Go.Proofs.YtelejpajnemmfaaDoor
