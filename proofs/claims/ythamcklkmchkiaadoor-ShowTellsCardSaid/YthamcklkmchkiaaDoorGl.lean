/-
  DERIVED. THE PLAIN FUNCTIONS OF LAYER 1 (glyph), over lists of bytes: no program in sight. Words, tags, how long a rune is, quoting, reading a quoted text, lines and columns; and how they stand to the model's own decoding.
-/
import Derived.Lib.RuneBytes
import Derived.Lib.DecodeN
import Derived.Laws.RangeAny
namespace Go.Proofs.YthamcklkmchkiaaDoor
namespace Gl

/-- A number between two. -/
def inB (c a b : Int) : Bool := decide (a ≤ c) && decide (c ≤ b)
theorem inB_iff (c a b : Int) : inB c a b = true ↔ a ≤ c ∧ c ≤ b := by simp [inB]

/-- A byte of a text, at a place, between two; beyond the end: no. -/
def contB (l : List UInt8) (k : Nat) (a b : Int) : Bool := match l[k]? with
  | some c => inB c.toNat a b
  | none => false

theorem contB_drop (l : List UInt8) (i k : Nat) (a b : Int) : contB (l.drop i) k a b = contB l (i + k) a b := by
  simp [contB, List.getElem?_drop]

theorem contB_some (l : List UInt8) (k : Nat) (a b : Int) : contB l k a b = true ↔ ∃ c, l[k]? = some c ∧ a ≤ c.toNat ∧ (c.toNat : Int) ≤ b := by
  unfold contB
  cases h : l[k]? with
  | none => simp
  | some c => simp [inB_iff]

/-- How many bytes the rune at a text's head has; 0: the byte there is no part of one. -/
def longL (l : List UInt8) : Nat :=
  match l[0]? with
  | none => 0
  | some c =>
    if c.toNat < 128 then 1
    else if (inB c.toNat 194 223 && contB l 1 128 191) = true then 2
    else if (inB c.toNat 224 239 && contB l 1 (if c.toNat = 224 then 160 else 128) (if c.toNat = 237 then 159 else 191) && contB l 2 128 191) = true then 3
    else if (inB c.toNat 240 244 && contB l 1 (if c.toNat = 240 then 144 else 128) (if c.toNat = 244 then 143 else 191) && contB l 2 128 191 && contB l 3 128 191) = true then 4
    else 0

/-- How many bytes stand together at a text's head: a rune's, or one odd one. -/
def stepL (l : List UInt8) : Nat := max (longL l) 1
theorem stepL_pos (l : List UInt8) : 1 ≤ stepL l := by unfold stepL; omega

theorem contB_lt {l : List UInt8} {k : Nat} {a b : Int} (h : contB l k a b = true) : k < l.length := by
  obtain ⟨c, hc, _⟩ := (contB_some l k a b).1 h
  exact (List.getElem?_eq_some_iff.1 hc).1

def twoB (c : UInt8) (l : List UInt8) : Bool := inB c.toNat 194 223 && contB l 1 128 191
def threeB (c : UInt8) (l : List UInt8) : Bool := inB c.toNat 224 239 && contB l 1 (if c.toNat = 224 then 160 else 128) (if c.toNat = 237 then 159 else 191) && contB l 2 128 191
def fourB (c : UInt8) (l : List UInt8) : Bool := inB c.toNat 240 244 && contB l 1 (if c.toNat = 240 then 144 else 128) (if c.toNat = 244 then 143 else 191) && contB l 2 128 191 && contB l 3 128 191
theorem longL_cons (c : UInt8) (r : List UInt8) : longL (c :: r) = if c.toNat < 128 then 1 else if twoB c (c :: r) = true then 2 else if threeB c (c :: r) = true then 3 else if fourB c (c :: r) = true then 4 else 0 := rfl
theorem longL_nil : longL [] = 0 := rfl
theorem longL_cases (c : UInt8) (r : List UInt8) :
    (longL (c :: r) = 1 ∧ c.toNat < 128) ∨ (longL (c :: r) = 2 ∧ 128 ≤ c.toNat ∧ twoB c (c :: r) = true) ∨ (longL (c :: r) = 3 ∧ 128 ≤ c.toNat ∧ twoB c (c :: r) = false ∧ threeB c (c :: r) = true)
      ∨ (longL (c :: r) = 4 ∧ 128 ≤ c.toNat ∧ twoB c (c :: r) = false ∧ threeB c (c :: r) = false ∧ fourB c (c :: r) = true)
      ∨ (longL (c :: r) = 0 ∧ 128 ≤ c.toNat ∧ twoB c (c :: r) = false ∧ threeB c (c :: r) = false ∧ fourB c (c :: r) = false) := by
  rw [longL_cons]
  by_cases h0 : c.toNat < 128
  · exact .inl ⟨if_pos h0, h0⟩
  · rw [if_neg h0]
    have h0' : 128 ≤ c.toNat := by omega
    by_cases h1 : twoB c (c :: r) = true
    · exact .inr (.inl ⟨if_pos h1, h0', h1⟩)
    · rw [if_neg h1]
      have h1' : twoB c (c :: r) = false := by simpa using h1
      by_cases h2 : threeB c (c :: r) = true
      · exact .inr (.inr (.inl ⟨if_pos h2, h0', h1', h2⟩))
      · rw [if_neg h2]
        have h2' : threeB c (c :: r) = false := by simpa using h2
        by_cases h3 : fourB c (c :: r) = true
        · exact .inr (.inr (.inr (.inl ⟨if_pos h3, h0', h1', h2', h3⟩)))
        · rw [if_neg h3]
          exact .inr (.inr (.inr (.inr ⟨rfl, h0', h1', h2', by simpa using h3⟩)))

theorem longL_le (l : List UInt8) : longL l ≤ l.length ∧ longL l ≤ 4 := by
  cases l with
  | nil => simp [longL_nil]
  | cons c r =>
    rcases longL_cases c r with ⟨h, _⟩ | ⟨h, _, h2⟩ | ⟨h, _, _, h2⟩ | ⟨h, _, _, _, h2⟩ | ⟨h, _⟩
    · rw [h]; simp
    · simp only [twoB, Bool.and_eq_true] at h2
      have := contB_lt h2.2
      omega
    · simp only [threeB, Bool.and_eq_true] at h2
      have := contB_lt h2.2
      omega
    · simp only [fourB, Bool.and_eq_true] at h2
      have := contB_lt h2.2
      omega
    · omega

theorem stepL_le (l : List UInt8) (h : l ≠ []) : stepL l ≤ l.length ∧ stepL l ≤ 4 := by
  have := longL_le l
  have : 0 < l.length := List.length_pos_iff.2 h
  unfold stepL
  omega

/-- A text in pieces: each a rune's bytes, or one odd byte. -/
def chunksF : Nat → List UInt8 → List (List UInt8)
  | 0, _ => []
  | _ + 1, [] => []
  | n + 1, c :: r => (c :: r).take (stepL (c :: r)) :: chunksF n ((c :: r).drop (stepL (c :: r)))
def chunks (l : List UInt8) : List (List UInt8) := chunksF l.length l

theorem chunksF_enough : ∀ (n m : Nat) (l : List UInt8), l.length ≤ n → l.length ≤ m → chunksF n l = chunksF m l := by
  intro n
  induction n with
  | zero => intro m l hn _; cases l with
    | nil => cases m <;> rfl
    | cons c r => simp at hn
  | succ n ih => intro m l hn hm; cases l with
    | nil => cases m <;> rfl
    | cons c r => cases m with
      | zero => simp at hm
      | succ m =>
        have hp := stepL_pos (c :: r)
        simp only [chunksF]
        rw [ih m]
        · simp only [List.length_drop, List.length_cons] at *; omega
        · simp only [List.length_drop, List.length_cons] at *; omega

theorem chunks_nil : chunks [] = [] := rfl
theorem chunks_step (l : List UInt8) (h : l ≠ []) : chunks l = l.take (stepL l) :: chunks (l.drop (stepL l)) := by
  cases l with
  | nil => exact absurd rfl h
  | cons c r =>
    have hp := stepL_pos (c :: r)
    show chunksF (r.length + 1) (c :: r) = _
    simp only [chunksF, chunks]
    rw [chunksF_enough r.length ((c :: r).drop (stepL (c :: r))).length]
    · simp only [List.length_drop, List.length_cons]; omega
    · exact Nat.le_refl _

/-- By pieces. -/
theorem chunk_ind {P : List UInt8 → Prop} (h0 : P []) (h1 : ∀ l, l ≠ [] → P (l.drop (stepL l)) → P l) (l : List UInt8) : P l := by
  have : ∀ (n : Nat) (l : List UInt8), l.length ≤ n → P l := by
    intro n
    induction n with
    | zero => intro l hl; cases l with
      | nil => exact h0
      | cons c r => simp at hl
    | succ n ih => intro l hl; by_cases hn : l = []
                   · subst hn; exact h0
                   · refine h1 l hn (ih _ ?_)
                     have hp := stepL_pos l
                     simp only [List.length_drop]; omega
  exact this l.length l (Nat.le_refl _)

/-- A figure of sixteen. -/
def hexL (n : Nat) : UInt8 := if n < 10 then UInt8.ofNat (48 + n) else UInt8.ofNat (87 + n)

/-- What is told of a piece, by its first byte and how long its rune is. -/
def pieceL (c : UInt8) (n : Nat) (p : List UInt8) : List UInt8 :=
  if c.toNat = 92 ∨ c.toNat = 34 then [92, c]
  else if c.toNat = 10 then [92, 110]
  else if c.toNat = 9 then [92, 116]
  else if n = 0 ∨ c.toNat < 32 ∨ c.toNat = 127 then [92, 120, hexL (c.toNat / 16), hexL (c.toNat % 16)]
  else p

/-- What is told of a text, without the quotes. -/
def bodyF : Nat → List UInt8 → List UInt8
  | 0, _ => []
  | _ + 1, [] => []
  | n + 1, c :: r => pieceL c (longL (c :: r)) ((c :: r).take (longL (c :: r))) ++ bodyF n ((c :: r).drop (stepL (c :: r)))
def bodyL (l : List UInt8) : List UInt8 := bodyF l.length l
def quoteL (l : List UInt8) : List UInt8 := 34 :: (bodyL l ++ [34])

theorem bodyF_enough : ∀ (n m : Nat) (l : List UInt8), l.length ≤ n → l.length ≤ m → bodyF n l = bodyF m l := by
  intro n
  induction n with
  | zero => intro m l hn _; cases l with
    | nil => cases m <;> rfl
    | cons c r => simp at hn
  | succ n ih => intro m l hn hm; cases l with
    | nil => cases m <;> rfl
    | cons c r => cases m with
      | zero => simp at hm
      | succ m =>
        have hp := stepL_pos (c :: r)
        simp only [bodyF]
        rw [ih m]
        · simp only [List.length_drop, List.length_cons] at *; omega
        · simp only [List.length_drop, List.length_cons] at *; omega
theorem bodyL_nil : bodyL [] = [] := rfl
theorem bodyL_cons (c : UInt8) (r : List UInt8) : bodyL (c :: r) = pieceL c (longL (c :: r)) ((c :: r).take (longL (c :: r))) ++ bodyL ((c :: r).drop (stepL (c :: r))) := by
  have hp := stepL_pos (c :: r)
  show bodyF (r.length + 1) (c :: r) = _
  simp only [bodyF, bodyL]
  rw [bodyF_enough r.length ((c :: r).drop (stepL (c :: r))).length]
  · simp only [List.length_drop, List.length_cons]; omega
  · exact Nat.le_refl _

theorem pieceL_length (c : UInt8) (n : Nat) (p : List UInt8) (hp : p.length ≤ 4) : (pieceL c n p).length ≤ 4 := by
  unfold pieceL
  by_cases h1 : c.toNat = 92 ∨ c.toNat = 34
  · rw [if_pos h1]; simp
  · rw [if_neg h1]
    by_cases h2 : c.toNat = 10
    · rw [if_pos h2]; simp
    · rw [if_neg h2]
      by_cases h3 : c.toNat = 9
      · rw [if_pos h3]; simp
      · rw [if_neg h3]
        by_cases h4 : n = 0 ∨ c.toNat < 32 ∨ c.toNat = 127
        · rw [if_pos h4]; simp
        · rw [if_neg h4]; exact hp

theorem bodyL_length (l : List UInt8) : (bodyL l).length ≤ 4 * l.length := by
  induction l using chunk_ind with
  | h0 => simp [bodyL_nil]
  | h1 l hl ih =>
    cases l with
    | nil => exact absurd rfl hl
    | cons c r =>
      have h1 := stepL_le (c :: r) hl
      have h0 := stepL_pos (c :: r)
      rw [bodyL_cons, List.length_append]
      have := pieceL_length c (longL (c :: r)) ((c :: r).take (longL (c :: r))) (by have := longL_le (c :: r); simp only [List.length_take]; omega)
      simp only [List.length_drop] at ih
      omega

/-- The number of a figure of sixteen. -/
def hexV (c : UInt8) : Option Nat :=
  if 48 ≤ c.toNat ∧ c.toNat ≤ 57 then some (c.toNat - 48)
  else if 97 ≤ c.toNat ∧ c.toNat ≤ 102 then some (c.toNat - 87)
  else none

/-- What a backslash ahead of a text means, and how many bytes of the text belong to it. -/
def escL : List UInt8 → Option (UInt8 × Nat)
  | [] => none
  | c :: r =>
    if c.toNat = 92 ∨ c.toNat = 34 then some (c, 1)
    else if c.toNat = 110 then some (10, 1)
    else if c.toNat = 116 then some (9, 1)
    else if c.toNat = 120 then
      match r with
      | a :: b :: _ => match hexV a, hexV b with
        | some x, some y => some (UInt8.ofNat (16 * x + y), 3)
        | _, _ => none
      | _ => none
    else none

/-- What stands behind a quote means: what is told, and how many bytes it is with the quote at its end. -/
def unqF : Nat → List UInt8 → Option (List UInt8 × Nat)
  | 0, _ => none
  | _ + 1, [] => none
  | n + 1, c :: r =>
    if c.toNat = 34 then some ([], 1)
    else if longL (c :: r) = 0 ∨ c.toNat < 32 ∨ c.toNat = 127 then none
    else if c.toNat = 92 then
      match escL r with
      | none => none
      | some (x, m) => (unqF n (r.drop m)).map fun p => (x :: p.1, 1 + m + p.2)
    else (unqF n ((c :: r).drop (longL (c :: r)))).map fun p => ((c :: r).take (longL (c :: r)) ++ p.1, longL (c :: r) + p.2)
def unqL (l : List UInt8) : Option (List UInt8 × Nat) := unqF l.length l

theorem unqF_enough : ∀ (n m : Nat) (l : List UInt8), l.length ≤ n → l.length ≤ m → unqF n l = unqF m l := by
  intro n
  induction n with
  | zero => intro m l hn _; cases l with
    | nil => cases m <;> rfl
    | cons c r => simp at hn
  | succ n ih => intro m l hn hm; cases l with
    | nil => cases m <;> rfl
    | cons c r => cases m with
      | zero => simp at hm
      | succ m =>
        simp only [List.length_cons] at hn hm
        simp only [unqF]
        split
        · rfl
        · split
          · rfl
          · rename_i h2
            split
            · cases he : escL r with
              | none => rfl
              | some p =>
                obtain ⟨x, k⟩ := p
                simp only
                rw [ih m]
                · simp only [List.length_drop]; omega
                · simp only [List.length_drop]; omega
            · have hp : 1 ≤ longL (c :: r) := by omega
              rw [ih m]
              · simp only [List.length_drop, List.length_cons]; omega
              · simp only [List.length_drop, List.length_cons]; omega

theorem unqL_nil : unqL [] = none := rfl
theorem unqL_cons (c : UInt8) (r : List UInt8) : unqL (c :: r) =
    if c.toNat = 34 then some ([], 1)
    else if longL (c :: r) = 0 ∨ c.toNat < 32 ∨ c.toNat = 127 then none
    else if c.toNat = 92 then
      match escL r with
      | none => none
      | some (x, m) => (unqL (r.drop m)).map fun p => (x :: p.1, 1 + m + p.2)
    else (unqL ((c :: r).drop (longL (c :: r)))).map fun p => ((c :: r).take (longL (c :: r)) ++ p.1, longL (c :: r) + p.2) := by
  show unqF (r.length + 1) (c :: r) = _
  simp only [unqF, unqL]
  split
  · rfl
  · split
    · rfl
    · rename_i h2
      split
      · cases he : escL r with
        | none => rfl
        | some p =>
          obtain ⟨x, k⟩ := p
          simp only
          rw [unqF_enough r.length (r.drop k).length]
          · simp only [List.length_drop]; omega
          · exact Nat.le_refl _
      · have hp : 1 ≤ longL (c :: r) := by omega
        rw [unqF_enough r.length ((c :: r).drop (longL (c :: r))).length]
        · simp only [List.length_drop, List.length_cons]; omega
        · exact Nat.le_refl _

/-- What has been told, and what is still to come. -/
def finL (acc : List UInt8) (pos : Nat) : Option (List UInt8 × Nat) → List UInt8 × Int × Int
  | none => ([], 0, 2)
  | some (x, n) => (acc ++ x, (pos : Int) + n, 0)
/-- What a quoted text means, how many bytes it is, and the error. -/
def unquoteL (l : List UInt8) : List UInt8 × Int × Int :=
  if l[0]? = some 34 then finL [] 1 (unqL (l.drop 1)) else ([], 0, 2)

/-- A line and a column, on from a place: 'more' places are still ahead. -/
def placeF : Nat → List UInt8 → Int → Int → Int → Int × Int
  | 0, _, _, line, column => (line, column)
  | _ + 1, [], _, line, column => (line, column)
  | n + 1, c :: r, more, line, column =>
    if more ≤ 0 then (line, column)
    else placeF n ((c :: r).drop (stepL (c :: r))) (more - stepL (c :: r)) (if c.toNat = 10 then line + 1 else line) (if c.toNat = 10 then 1 else column + 1)
def placeFrom (l : List UInt8) (more line column : Int) : Int × Int := placeF l.length l more line column
def placeL (l : List UInt8) (at' : Int) : Int × Int := placeFrom l at' 1 1

theorem placeF_enough : ∀ (n m : Nat) (l : List UInt8) (more a b : Int), l.length ≤ n → l.length ≤ m → placeF n l more a b = placeF m l more a b := by
  intro n
  induction n with
  | zero => intro m l more a b hn _; cases l with
    | nil => cases m <;> rfl
    | cons c r => simp at hn
  | succ n ih => intro m l more a b hn hm; cases l with
    | nil => cases m <;> rfl
    | cons c r => cases m with
      | zero => simp at hm
      | succ m =>
        have hp := stepL_pos (c :: r)
        simp only [placeF]
        split
        · rfl
        · rw [ih m]
          · simp only [List.length_drop, List.length_cons] at *; omega
          · simp only [List.length_drop, List.length_cons] at *; omega
theorem placeFrom_nil (more a b : Int) : placeFrom [] more a b = (a, b) := rfl
theorem placeFrom_stop (l : List UInt8) (more a b : Int) (h : more ≤ 0) : placeFrom l more a b = (a, b) := by
  cases l with
  | nil => rfl
  | cons c r => show placeF (r.length + 1) (c :: r) more a b = _; simp [placeF, h]
theorem placeFrom_step (c : UInt8) (r : List UInt8) (more a b : Int) (h : 0 < more) :
    placeFrom (c :: r) more a b = placeFrom ((c :: r).drop (stepL (c :: r))) (more - stepL (c :: r)) (if c.toNat = 10 then a + 1 else a) (if c.toNat = 10 then 1 else b + 1) := by
  have hp := stepL_pos (c :: r)
  show placeF (r.length + 1) (c :: r) more a b = _
  simp only [placeF, placeFrom]
  rw [if_neg (by omega), placeF_enough r.length ((c :: r).drop (stepL (c :: r))).length]
  · simp only [List.length_drop, List.length_cons]; omega
  · exact Nat.le_refl _

/-- What a byte may be. -/
def smallB (c : UInt8) : Bool := inB c.toNat 97 122
def greatB (c : UInt8) : Bool := inB c.toNat 65 90
def behindZ (r : Int) : Bool := inB r 97 122 || (inB r 65 90 || (inB r 48 57 || decide (r = 95)))
def behindB (c : UInt8) : Bool := behindZ c.toNat
/-- A rune of so many bytes that has to be told by its byte. -/
def oddZ (r long : Int) : Bool := (decide (r = 65533) && decide (long = 1)) || (decide (r < 32) || decide (r = 127))
def wordL : List UInt8 → Bool
  | [] => false
  | c :: r => smallB c && r.all behindB
def tagL : List UInt8 → Bool
  | [] => false
  | c :: r => greatB c && r.all behindB
end Gl
end Go.Proofs.YthamcklkmchkiaaDoor
