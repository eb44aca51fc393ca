/-
  DERIVED. THE PLAIN FUNCTIONS OF LAYER 2 (lex), over lists of bytes: blanks and remarks, words, signs, tokens, and tokens joined. No program in sight.
-/
import Derived.Test.YtelejpajnemmfaaDoorGlPure
namespace Go.Proofs.YtelejpajnemmfaaDoor
namespace Lx
open Gl

/-- A token: its kind, its text, and which bytes it is. -/
structure Tok where
  kind : Nat
  text : List UInt8
  lo : Nat
  hi : Nat

/-- All keys, as bytes. -/
def keysL : List (List UInt8) := [[105, 109, 112, 111, 114, 116], [100, 101, 102], [102, 117, 110], [108, 101, 116], [114, 101, 99], [105, 110], [105, 102], [116, 104, 101, 110], [101, 108, 115, 101], [99, 97, 115, 101], [111, 102], [101, 110, 100], [116, 114, 117, 101], [102, 97, 108, 115, 101], [117, 110, 105, 116], [105, 110, 116], [98, 111, 111, 108], [115, 116, 114, 105, 110, 103]]
/-- All signs, the longer ones first. -/
def signsL : List (List UInt8) := [[45, 62], [61, 61], [38, 38], [124, 124], [43, 43], [40], [41], [123], [125], [91], [93], [44], [59], [58], [46], [61], [124], [43], [45], [42], [47], [60], [63], [33]]

def blankB (c : UInt8) : Bool := c.toNat == 32 || c.toNat == 9 || c.toNat == 10
def figB (c : UInt8) : Bool := inB c.toNat 48 57

/-- How many bytes stand ahead of a token: blanks and remarks; 'true': in a remark. -/
def skipM : Bool → List UInt8 → Nat
  | _, [] => 0
  | true, c :: r => if c.toNat = 10 then 1 + skipM false r else 1 + skipM true r
  | false, c :: r => if blankB c = true then 1 + skipM false r else if c.toNat = 35 then 1 + skipM true r else 0

theorem skipM_le : ∀ (l : List UInt8) (m : Bool), skipM m l ≤ l.length
  | [], m => by cases m <;> simp [skipM]
  | c :: r, m => by
    have h1 := skipM_le r true
    have h2 := skipM_le r false
    cases m
    · simp only [skipM, List.length_cons]
      by_cases hb : blankB c = true
      · rw [if_pos hb]; omega
      · rw [if_neg hb]
        by_cases hc : c.toNat = 35
        · rw [if_pos hc]; omega
        · rw [if_neg hc]; omega
    · simp only [skipM, List.length_cons]
      by_cases hc : c.toNat = 10
      · rw [if_pos hc]; omega
      · rw [if_neg hc]; omega

/-- What stands behind what is skipped is no blank, and begins no remark. -/
theorem skipM_head : ∀ (l : List UInt8) (m : Bool) (c : UInt8) (r : List UInt8), l.drop (skipM m l) = c :: r → blankB c = false ∧ c.toNat ≠ 35
  | [], m, c, r, h => by cases m <;> simp [skipM] at h
  | x :: l, m, c, r, h => by
    cases m
    · simp only [skipM] at h
      by_cases hb : blankB x = true
      · rw [if_pos hb, Nat.add_comm, List.drop_succ_cons] at h; exact skipM_head l false c r h
      · rw [if_neg hb] at h
        by_cases hc : x.toNat = 35
        · rw [if_pos hc, Nat.add_comm, List.drop_succ_cons] at h; exact skipM_head l true c r h
        · rw [if_neg hc, List.drop_zero] at h
          injection h with h1 h2
          subst h1
          exact ⟨by simpa using hb, hc⟩
    · simp only [skipM] at h
      by_cases hc : x.toNat = 10
      · rw [if_pos hc, Nat.add_comm, List.drop_succ_cons] at h; exact skipM_head l false c r h
      · rw [if_neg hc, Nat.add_comm, List.drop_succ_cons] at h; exact skipM_head l true c r h

/-- The word that a text begins with, if it is one. -/
def wordOf (l : List UInt8) : List UInt8 := l.takeWhile behindB
/-- The sign that a text begins with. -/
def signOf (l : List UInt8) : Option (List UInt8) := signsL.find? fun x => x.isPrefixOf l

/-- What kind of token a word is. -/
def kindOf (w : List UInt8) : Option Nat :=
  if tagL w = true then some 2
  else if keysL.contains w = true then some 6
  else if wordL w = true then some 1
  else if (w.all figB && decide (w.length ≤ 18)) = true then some 3
  else none

/-- The token that a text begins with: its kind, its text, how many bytes. -/
def oneL (l : List UInt8) : Option (Nat × List UInt8 × Nat) :=
  match l with
  | [] => none
  | c :: r =>
    if c.toNat = 34 then (unqL r).map fun p => (4, p.1, p.2 + 1)
    else if wordOf (c :: r) = [] then (signOf (c :: r)).map fun x => (5, x, x.length)
    else (kindOf (wordOf (c :: r))).map fun k => (k, wordOf (c :: r), (wordOf (c :: r)).length)

theorem unqL_bytes : ∀ (n : Nat) (l x : List UInt8) (k : Nat), l.length ≤ n → unqL l = some (x, k) → 1 ≤ k ∧ k ≤ l.length ∧ x.length + 1 ≤ k := by
  intro n
  induction n with
  | zero => intro l x k hl h; cases l with
    | nil => simp [unqL_nil] at h
    | cons c r => simp at hl
  | succ n ih => intro l x k hl h; cases l with
    | nil => simp [unqL_nil] at h
    | cons c r =>
      rw [unqL_cons] at h
      by_cases h1 : c.toNat = 34
      · rw [if_pos h1] at h; simp only [Option.some.injEq, Prod.mk.injEq] at h; obtain ⟨rfl, rfl⟩ := h; simp
      · rw [if_neg h1] at h
        by_cases h2 : longL (c :: r) = 0 ∨ c.toNat < 32 ∨ c.toNat = 127
        · rw [if_pos h2] at h; simp at h
        · rw [if_neg h2] at h
          by_cases h3 : c.toNat = 92
          · rw [if_pos h3] at h
            cases he : escL r with
            | none => rw [he] at h; simp at h
            | some p =>
              obtain ⟨y, m⟩ := p
              rw [he] at h
              simp only at h
              cases hu : unqL (r.drop m) with
              | none => rw [hu] at h; simp at h
              | some q =>
                rw [hu] at h
                simp only [Option.map_some, Option.some.injEq, Prod.mk.injEq] at h
                obtain ⟨rfl, rfl⟩ := h
                have := ih (r.drop m) q.1 q.2 (by simp only [List.length_drop, List.length_cons] at *; omega) hu
                simp only [List.length_drop, List.length_cons] at *
                omega
          · rw [if_neg h3] at h
            cases hu : unqL ((c :: r).drop (longL (c :: r))) with
            | none => rw [hu] at h; simp at h
            | some q =>
              rw [hu] at h
              simp only [Option.map_some, Option.some.injEq, Prod.mk.injEq] at h
              obtain ⟨rfl, rfl⟩ := h
              have hle := longL_le (c :: r)
              have := ih _ q.1 q.2 (by simp only [List.length_drop, List.length_cons] at *; omega) hu
              simp only [List.length_drop, List.length_append, List.length_take, List.length_cons] at *
              omega

theorem signOf_some {l x : List UInt8} (h : signOf l = some x) : x ∈ signsL ∧ x.isPrefixOf l = true := ⟨List.mem_of_find?_eq_some h, by have := List.find?_some (p := fun x : List UInt8 => x.isPrefixOf l) h; exact this⟩
theorem signs_pos : ∀ x ∈ signsL, 1 ≤ x.length ∧ x.length ≤ 2 := by decide

theorem prefix_len {x l : List UInt8} (h : x.isPrefixOf l = true) : x.length ≤ l.length := List.IsPrefix.length_le (List.isPrefixOf_iff_prefix.1 h)

/-- A token has a byte at the least, and no more than there are. -/
theorem oneL_len {l x : List UInt8} {k n : Nat} (h : oneL l = some (k, x, n)) : 1 ≤ n ∧ n ≤ l.length := by
  cases l with
  | nil => simp [oneL] at h
  | cons c r =>
    simp only [oneL] at h
    by_cases h1 : c.toNat = 34
    · rw [if_pos h1] at h
      cases hu : unqL r with
      | none => rw [hu] at h; simp at h
      | some q =>
        rw [hu] at h
        simp only [Option.map_some, Option.some.injEq, Prod.mk.injEq] at h
        obtain ⟨_, _, rfl⟩ := h
        have := unqL_bytes r.length r q.1 q.2 (Nat.le_refl _) hu
        simp only [List.length_cons]; omega
    · rw [if_neg h1] at h
      by_cases h2 : wordOf (c :: r) = []
      · rw [if_pos h2] at h
        cases hs : signOf (c :: r) with
        | none => rw [hs] at h; simp at h
        | some y =>
          rw [hs] at h
          simp only [Option.map_some, Option.some.injEq, Prod.mk.injEq] at h
          obtain ⟨_, _, rfl⟩ := h
          have a := signOf_some hs
          exact ⟨(signs_pos y a.1).1, prefix_len a.2⟩
      · rw [if_neg h2] at h
        cases hs : kindOf (wordOf (c :: r)) with
        | none => rw [hs] at h; simp at h
        | some y =>
          rw [hs] at h
          simp only [Option.map_some, Option.some.injEq, Prod.mk.injEq] at h
          obtain ⟨_, _, rfl⟩ := h
          exact ⟨List.length_pos_iff.2 h2, List.IsPrefix.length_le (List.takeWhile_prefix _)⟩

/-- A text's tokens, from a place on; where it is none. -/
def tokF : Nat → Nat → List UInt8 → Sum Nat (List Tok)
  | 0, pos, _ => .inl pos
  | n + 1, pos, l =>
    match l.drop (skipM false l) with
    | [] => .inr [⟨0, [], pos + skipM false l, pos + skipM false l⟩]
    | c :: r => match oneL (c :: r) with
      | none => .inl (pos + skipM false l)
      | some (k, x, m) => match tokF n (pos + skipM false l + m) ((c :: r).drop m) with
        | .inl e => .inl e
        | .inr ts => .inr (⟨k, x, pos + skipM false l, pos + skipM false l + m⟩ :: ts)
def tokL (pos : Nat) (l : List UInt8) : Sum Nat (List Tok) := tokF (l.length + 1) pos l

theorem tokF_enough : ∀ (n m pos : Nat) (l : List UInt8), l.length < n → l.length < m → tokF n pos l = tokF m pos l := by
  intro n
  induction n with
  | zero => intro m pos l h; omega
  | succ n ih =>
    intro m pos l hn hm
    cases m with
    | zero => omega
    | succ m =>
      simp only [tokF]
      cases hd : l.drop (skipM false l) with
      | nil => rfl
      | cons c r =>
        simp only
        cases ho : oneL (c :: r) with
        | none => rfl
        | some q =>
          obtain ⟨k, x, j⟩ := q
          simp only
          have hl := oneL_len ho
          have he := congrArg List.length hd
          rw [List.length_drop] at he
          rw [ih m]
          · rw [List.length_drop]; omega
          · rw [List.length_drop]; omega

theorem tokF_succ (n pos : Nat) (l : List UInt8) : tokF (n + 1) pos l =
    match l.drop (skipM false l) with
    | [] => .inr [⟨0, [], pos + skipM false l, pos + skipM false l⟩]
    | c :: r => match oneL (c :: r) with
      | none => .inl (pos + skipM false l)
      | some (k, x, m) => match tokF n (pos + skipM false l + m) ((c :: r).drop m) with
        | .inl e => .inl e
        | .inr ts => .inr (⟨k, x, pos + skipM false l, pos + skipM false l + m⟩ :: ts) := rfl
theorem tokL_step (pos : Nat) (l : List UInt8) : tokL pos l =
    match l.drop (skipM false l) with
    | [] => .inr [⟨0, [], pos + skipM false l, pos + skipM false l⟩]
    | c :: r => match oneL (c :: r) with
      | none => .inl (pos + skipM false l)
      | some (k, x, m) => match tokL (pos + skipM false l + m) ((c :: r).drop m) with
        | .inl e => .inl e
        | .inr ts => .inr (⟨k, x, pos + skipM false l, pos + skipM false l + m⟩ :: ts) := by
  unfold tokL
  rw [tokF_succ]
  cases hd : l.drop (skipM false l) with
  | nil => rfl
  | cons c r =>
    simp only
    cases ho : oneL (c :: r) with
    | none => rfl
    | some q =>
      obtain ⟨k, x, j⟩ := q
      simp only
      have hl := oneL_len ho
      have he := congrArg List.length hd
      rw [List.length_drop] at he
      rw [tokF_enough l.length (((c :: r).drop j).length + 1) _ ((c :: r).drop j) (by rw [List.length_drop]; omega) (by omega)]

theorem tokL_end {pos : Nat} {l : List UInt8} (h : l.drop (skipM false l) = []) : tokL pos l = .inr [⟨0, [], pos + skipM false l, pos + skipM false l⟩] := by
  rw [tokL_step, h]
theorem tokL_bad {pos : Nat} {l : List UInt8} {c : UInt8} {r : List UInt8} (h : l.drop (skipM false l) = c :: r) (ho : oneL (c :: r) = none) : tokL pos l = .inl (pos + skipM false l) := by
  rw [tokL_step, h]; simp only; rw [ho]
theorem tokL_more {pos : Nat} {l : List UInt8} {c : UInt8} {r : List UInt8} {k m : Nat} {x : List UInt8} (h : l.drop (skipM false l) = c :: r) (ho : oneL (c :: r) = some (k, x, m)) :
    tokL pos l = match tokL (pos + skipM false l + m) ((c :: r).drop m) with
        | .inl e => .inl e
        | .inr ts => .inr (⟨k, x, pos + skipM false l, pos + skipM false l + m⟩ :: ts) := by
  rw [tokL_step, h]; simp only; rw [ho]

/-- Tokens, joined: with a blank between. -/
def bytesOf (t : Tok) : List UInt8 := if t.kind = 4 then quoteL t.text else t.text
def joinL : List Tok → List UInt8
  | [] => []
  | [_] => []
  | [t, _] => bytesOf t
  | t :: u :: v :: r => bytesOf t ++ 32 :: joinL (u :: v :: r)
end Lx
end Go.Proofs.YtelejpajnemmfaaDoor
