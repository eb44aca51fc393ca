/-
  DERIVED. PLAIN LAWS OF LAYER 2 (lex), on: tokens lie inside their text; two texts with a line's end between.
-/
import Derived.Test.YtelejpajnemmfaaDoorLxPure2
namespace Go.Proofs.YtelejpajnemmfaaDoor
namespace Lx
open Gl

theorem tokL_leF : ∀ (n : Nat) (l : List UInt8) (pos : Nat) (ts : List Tok), l.length ≤ n → tokL pos l = .inr ts → ∀ t ∈ ts, t.lo ≤ pos + l.length ∧ t.hi ≤ pos + l.length := by
  intro n
  induction n with
  | zero =>
    intro l pos ts hn h
    have hsk := skipM_le l false
    rcases tokL_inv h with ⟨_, h2⟩ | ⟨c, r, k, x, m, us', hd, _, _, _, _, _, _, hlen⟩
    · subst h2
      intro t ht
      obtain rfl := List.mem_singleton.1 ht
      exact ⟨by simp; exact hsk, by simp; exact hsk⟩
    · simp only [List.length_cons] at hlen; omega
  | succ n ih =>
    intro l pos ts hn h
    have hsk := skipM_le l false
    rcases tokL_inv h with ⟨_, h2⟩ | ⟨c, r, k, x, m, us, hd, ho, ht, hne, h2, hm1, hm2, hlen⟩
    · subst h2
      intro t ht
      obtain rfl := List.mem_singleton.1 ht
      exact ⟨by simp; exact hsk, by simp; exact hsk⟩
    · subst h2
      have hi := ih ((c :: r).drop m) _ us (by rw [List.length_drop]; simp only [List.length_cons] at *; omega) ht
      intro t hm
      rcases List.mem_cons.1 hm with rfl | hm
      · simp only [List.length_cons] at *
        exact ⟨by omega, by omega⟩
      · have := hi t hm
        rw [List.length_drop] at this
        simp only [List.length_cons] at *
        omega
theorem tokL_le (l : List UInt8) (ts : List Tok) (h : tokL 0 l = .inr ts) : ∀ t ∈ ts, t.lo ≤ l.length ∧ t.hi ≤ l.length := fun t ht => by
  have := tokL_leF l.length l 0 ts (Nat.le_refl _) h t ht
  omega

/-- Where there is no token, it is inside the text. -/
theorem tokL_errF : ∀ (n : Nat) (l : List UInt8) (pos p : Nat), l.length ≤ n → tokL pos l = .inl p → p ≤ pos + l.length := by
  intro n
  induction n with
  | zero =>
    intro l pos p hn h
    have hl : l = [] := List.eq_nil_of_length_eq_zero (by omega)
    rw [hl, tokL_nil] at h; cases h
  | succ n ih =>
    intro l pos p hn h
    have hsk := skipM_le l false
    rw [tokL_step] at h
    cases hd : l.drop (skipM false l) with
    | nil => rw [hd] at h; simp at h
    | cons c r =>
      have hle := congrArg List.length hd
      rw [List.length_drop] at hle
      simp only [List.length_cons] at hle
      rw [hd] at h
      simp only at h
      cases ho : oneL (c :: r) with
      | none => rw [ho] at h; simp only [Sum.inl.injEq] at h; omega
      | some q =>
        obtain ⟨k, x, m⟩ := q
        rw [ho] at h
        simp only at h
        have hl := oneL_len ho
        simp only [List.length_cons] at hl
        cases ht : tokL (pos + skipM false l + m) ((c :: r).drop m) with
        | inl e =>
          rw [ht] at h
          simp only [Sum.inl.injEq] at h
          have := ih _ _ e (by rw [List.length_drop]; simp only [List.length_cons]; omega) ht
          rw [List.length_drop] at this
          simp only [List.length_cons] at this
          omega
        | inr ts => rw [ht] at h; simp at h

/-- CUTS, of both from the beginning. -/
theorem tokL_two {a b : List UInt8} {ts us : List Tok} (ha : tokL 0 a = .inr ts) (hb : tokL 0 b = .inr us) : tokL 0 (a ++ 10 :: b) = .inr (ts.dropLast ++ us.map (shiftT (a.length + 1))) := by
  refine tokL_cut b _ a.length a 0 ts (Nat.le_refl _) ha ?_
  rw [tokL_shift (a.length + 1) 0 b, hb]; rfl
end Lx
end Go.Proofs.YtelejpajnemmfaaDoor
