/-
  DERIVED. PLAIN LAWS OF LAYER 1: how long a rune is hangs on its own bytes; a quoted text is told again; places rise. No program in sight.
-/
import Derived.Test.YthamcklkmchkiaaDoorGl
namespace Go.Proofs.YthamcklkmchkiaaDoor
namespace Gl

theorem contB_congr {l l' : List UInt8} {k : Nat} (a b : Int) (h : l'[k]? = l[k]?) : contB l' k a b = contB l k a b := by unfold contB; rw [h]
theorem contB_ge {l : List UInt8} {k : Nat} {a b : Int} (h : contB l k a b = true) (ha : 128 ≤ a) : ∃ c, l[k]? = some c ∧ 128 ≤ c.toNat := by
  obtain ⟨c, hc, h1, _⟩ := (contB_some l k a b).1 h
  exact ⟨c, hc, by omega⟩

/-- What the length of a rune says of its bytes. -/
theorem long_inv (c : UInt8) (r : List UInt8) :
    (c.toNat < 128 → longL (c :: r) = 1) ∧
    (194 ≤ c.toNat ∧ c.toNat ≤ 223 → longL (c :: r) = if contB (c :: r) 1 128 191 = true then 2 else 0) ∧
    (224 ≤ c.toNat ∧ c.toNat ≤ 239 → longL (c :: r) = if (contB (c :: r) 1 (if c.toNat = 224 then 160 else 128) (if c.toNat = 237 then 159 else 191) && contB (c :: r) 2 128 191) = true then 3 else 0) ∧
    (240 ≤ c.toNat ∧ c.toNat ≤ 244 → longL (c :: r) = if (contB (c :: r) 1 (if c.toNat = 240 then 144 else 128) (if c.toNat = 244 then 143 else 191) && contB (c :: r) 2 128 191 && contB (c :: r) 3 128 191) = true then 4 else 0) ∧
    ((128 ≤ c.toNat ∧ c.toNat < 194) ∨ 245 ≤ c.toNat → longL (c :: r) = 0) := by
  have e1 : inB c.toNat 194 223 = decide (194 ≤ c.toNat ∧ c.toNat ≤ 223) := by rw [Bool.eq_iff_iff, inB_iff, decide_eq_true_iff]; omega
  have e2 : inB c.toNat 224 239 = decide (224 ≤ c.toNat ∧ c.toNat ≤ 239) := by rw [Bool.eq_iff_iff, inB_iff, decide_eq_true_iff]; omega
  have e3 : inB c.toNat 240 244 = decide (240 ≤ c.toNat ∧ c.toNat ≤ 244) := by rw [Bool.eq_iff_iff, inB_iff, decide_eq_true_iff]; omega
  rw [longL_cons]
  unfold twoB threeB fourB
  rw [e1, e2, e3]
  refine ⟨fun h => if_pos h, fun h => ?_, fun h => ?_, fun h => ?_, fun h => ?_⟩
  · rw [if_neg (by omega), decide_eq_true h, decide_eq_false (by omega), decide_eq_false (by omega)]
    simp
  · rw [if_neg (by omega), decide_eq_false (by omega), decide_eq_true h, decide_eq_false (by omega)]
    simp
  · rw [if_neg (by omega), decide_eq_false (by omega), decide_eq_false (by omega), decide_eq_true h]
    simp
  · rw [if_neg (by omega), decide_eq_false (by omega), decide_eq_false (by omega), decide_eq_false (by omega)]
    simp

/-- The bytes behind a rune's first one go on with it. -/
theorem long_cont (l : List UInt8) (k : Nat) (h1 : 1 ≤ k) (h2 : k < longL l) : ∃ c, l[k]? = some c ∧ 128 ≤ c.toNat := by
  cases l with
  | nil => simp [longL_nil] at h2
  | cons c r =>
    obtain ⟨i1, i2, i3, i4, i5⟩ := long_inv c r
    by_cases a1 : c.toNat < 128
    · rw [i1 a1] at h2; omega
    · by_cases a2 : 194 ≤ c.toNat ∧ c.toNat ≤ 223
      · rw [i2 a2] at h2
        by_cases hc : contB (c :: r) 1 128 191 = true
        · rw [if_pos hc] at h2
          obtain rfl : k = 1 := by omega
          exact contB_ge hc (by decide)
        · rw [if_neg hc] at h2; omega
      · by_cases a3 : 224 ≤ c.toNat ∧ c.toNat ≤ 239
        · rw [i3 a3] at h2
          by_cases hc : (contB (c :: r) 1 (if c.toNat = 224 then 160 else 128) (if c.toNat = 237 then 159 else 191) && contB (c :: r) 2 128 191) = true
          · rw [if_pos hc] at h2
            rw [Bool.and_eq_true] at hc
            by_cases e : k = 1
            · subst e; exact contB_ge hc.1 (by split <;> decide)
            · obtain rfl : k = 2 := by omega
              exact contB_ge hc.2 (by decide)
          · rw [if_neg hc] at h2; omega
        · by_cases a4 : 240 ≤ c.toNat ∧ c.toNat ≤ 244
          · rw [i4 a4] at h2
            by_cases hc : (contB (c :: r) 1 (if c.toNat = 240 then 144 else 128) (if c.toNat = 244 then 143 else 191) && contB (c :: r) 2 128 191 && contB (c :: r) 3 128 191) = true
            · rw [if_pos hc] at h2
              rw [Bool.and_eq_true, Bool.and_eq_true] at hc
              by_cases e : k = 1
              · subst e; exact contB_ge hc.1.1 (by split <;> decide)
              · by_cases e' : k = 2
                · subst e'; exact contB_ge hc.1.2 (by decide)
                · obtain rfl : k = 3 := by omega
                  exact contB_ge hc.2 (by decide)
            · rw [if_neg hc] at h2; omega
          · rw [i5 (by omega)] at h2; omega

/-- A rune's length hangs on its own bytes alone. -/
theorem long_prefix (l l' : List UInt8) (h0 : longL l ≠ 0) (h : ∀ k, k < longL l → l'[k]? = l[k]?) : longL l' = longL l := by
  cases l with
  | nil => exact absurd longL_nil h0
  | cons c r =>
    have hh := h 0 (by omega)
    cases l' with
    | nil => simp at hh
    | cons c' r' =>
      have hc : c' = c := by simpa using hh
      subst hc
      obtain ⟨i1, i2, i3, i4, i5⟩ := long_inv c' r
      obtain ⟨j1, j2, j3, j4, j5⟩ := long_inv c' r'
      by_cases a1 : c'.toNat < 128
      · rw [i1 a1, j1 a1]
      · by_cases a2 : 194 ≤ c'.toNat ∧ c'.toNat ≤ 223
        · by_cases hc : contB (c' :: r) 1 128 191 = true
          · rw [i2 a2, if_pos hc] at h
            rw [j2 a2, contB_congr 128 191 (h 1 (by omega)), if_pos hc, i2 a2, if_pos hc]
          · rw [i2 a2, if_neg hc] at h0; exact absurd rfl h0
        · by_cases a3 : 224 ≤ c'.toNat ∧ c'.toNat ≤ 239
          · by_cases hc : (contB (c' :: r) 1 (if c'.toNat = 224 then 160 else 128) (if c'.toNat = 237 then 159 else 191) && contB (c' :: r) 2 128 191) = true
            · rw [i3 a3, if_pos hc] at h
              rw [j3 a3, contB_congr _ _ (h 1 (by omega)), contB_congr _ _ (h 2 (by omega)), if_pos hc, i3 a3, if_pos hc]
            · rw [i3 a3, if_neg hc] at h0; exact absurd rfl h0
          · by_cases a4 : 240 ≤ c'.toNat ∧ c'.toNat ≤ 244
            · by_cases hc : (contB (c' :: r) 1 (if c'.toNat = 240 then 144 else 128) (if c'.toNat = 244 then 143 else 191) && contB (c' :: r) 2 128 191 && contB (c' :: r) 3 128 191) = true
              · rw [i4 a4, if_pos hc] at h
                rw [j4 a4, contB_congr _ _ (h 1 (by omega)), contB_congr _ _ (h 2 (by omega)), contB_congr _ _ (h 3 (by omega)), if_pos hc, i4 a4, if_pos hc]
              · rw [i4 a4, if_neg hc] at h0; exact absurd rfl h0
            · rw [i5 (by omega)] at h0; exact absurd rfl h0

theorem long_append (l x : List UInt8) (h : longL l ≠ 0) : longL (l ++ x) = longL l :=
  long_prefix l (l ++ x) h (fun k hk => by have := longL_le l; rw [List.getElem?_append_left (by omega)])
theorem long_take (l x : List UInt8) (h : longL l ≠ 0) : longL (l.take (longL l) ++ x) = longL l :=
  long_prefix l _ h (fun k hk => by
    have := longL_le l
    rw [List.getElem?_append_left (by rw [List.length_take]; omega), List.getElem?_take, if_pos hk])

/-- A line's end behind a text parts no rune of it and makes none. -/
theorem long_line (l x : List UInt8) (h : l ≠ []) : longL (l ++ 10 :: x) = longL l := by
  by_cases h0 : longL l = 0
  · rw [h0]
    by_cases h1 : longL (l ++ 10 :: x) = 0
    · exact h1
    · exfalso
      have hlt : longL (l ++ 10 :: x) ≤ l.length := by
        rcases Nat.lt_or_ge l.length (longL (l ++ 10 :: x)) with hg | hg
        · obtain ⟨c, hc, hh⟩ := long_cont (l ++ 10 :: x) l.length (List.length_pos_iff.2 h) hg
          rw [List.getElem?_append_right (Nat.le_refl _), Nat.sub_self] at hc
          simp at hc
          subst hc
          exact absurd hh (by decide)
        · exact hg
      have := long_prefix (l ++ 10 :: x) l h1 (fun k hk => by rw [List.getElem?_append_left (by omega)])
      omega
  · exact long_append l _ h0

/-! ### A quoted text is told again -/

theorem hexV_hexL (n : Nat) (h : n < 16) : hexV (hexL n) = some n := by
  have H : ∀ n, n < 16 → hexV (hexL n) = some n := by decide
  exact H n h
theorem hexL_plain (n : Nat) (h : n < 16) : 32 ≤ (hexL n).toNat ∧ (hexL n).toNat ≠ 127 := by
  have H : ∀ n, n < 16 → 32 ≤ (hexL n).toNat ∧ (hexL n).toNat ≠ 127 := by decide
  exact H n h

theorem step_odd (c : UInt8) (r : List UInt8) (h : longL (c :: r) = 0 ∨ c.toNat < 128) : stepL (c :: r) = 1 := by
  unfold stepL
  rcases h with h | h
  · omega
  · rw [(long_inv c r).1 h]; rfl

theorem unq_piece (c : UInt8) (r rest : List UInt8) :
    unqL (pieceL c (longL (c :: r)) ((c :: r).take (longL (c :: r))) ++ rest) =
      (unqL rest).map fun p => ((c :: r).take (stepL (c :: r)) ++ p.1, (pieceL c (longL (c :: r)) ((c :: r).take (longL (c :: r)))).length + p.2) := by
  have cl := c.toNat_lt
  have l92 : ∀ x : List UInt8, longL (92 :: x) = 1 := fun x => (long_inv 92 x).1 (by decide)
  by_cases h1 : c.toNat = 92 ∨ c.toNat = 34
  · have hs := step_odd c r (.inr (by omega))
    have hp : pieceL c (longL (c :: r)) ((c :: r).take (longL (c :: r))) = [92, c] := by unfold pieceL; rw [if_pos h1]
    rw [hp, hs]
    show unqL (92 :: (c :: rest)) = _
    rw [unqL_cons, if_neg (by decide), if_neg (by rw [l92]; decide), if_pos (by decide)]
    have : escL (c :: rest) = some (c, 1) := by simp only [escL, if_pos h1]
    rw [this]
    simp
  · by_cases h2 : c.toNat = 10
    · have hs := step_odd c r (.inr (by omega))
      have hp : pieceL c (longL (c :: r)) ((c :: r).take (longL (c :: r))) = [92, 110] := by unfold pieceL; rw [if_neg h1, if_pos h2]
      have hc : c = 10 := UInt8.toNat_inj.1 h2
      rw [hp, hs]
      show unqL (92 :: (110 :: rest)) = _
      rw [unqL_cons, if_neg (by decide), if_neg (by rw [l92]; decide), if_pos (by decide)]
      have : escL (110 :: rest) = some (10, 1) := rfl
      rw [this, hc]
      simp
    · by_cases h3 : c.toNat = 9
      · have hs := step_odd c r (.inr (by omega))
        have hp : pieceL c (longL (c :: r)) ((c :: r).take (longL (c :: r))) = [92, 116] := by unfold pieceL; rw [if_neg h1, if_neg h2, if_pos h3]
        have hc : c = 9 := UInt8.toNat_inj.1 h3
        rw [hp, hs]
        show unqL (92 :: (116 :: rest)) = _
        rw [unqL_cons, if_neg (by decide), if_neg (by rw [l92]; decide), if_pos (by decide)]
        have : escL (116 :: rest) = some (9, 1) := rfl
        rw [this, hc]
        simp
      · by_cases h4 : longL (c :: r) = 0 ∨ c.toNat < 32 ∨ c.toNat = 127
        · have hs := step_odd c r (by omega)
          have hp : pieceL c (longL (c :: r)) ((c :: r).take (longL (c :: r))) = [92, 120, hexL (c.toNat / 16), hexL (c.toNat % 16)] := by unfold pieceL; rw [if_neg h1, if_neg h2, if_neg h3, if_pos h4]
          rw [hp, hs]
          show unqL (92 :: (120 :: hexL (c.toNat / 16) :: hexL (c.toNat % 16) :: rest)) = _
          rw [unqL_cons, if_neg (by decide), if_neg (by rw [l92]; decide), if_pos (by decide)]
          have : escL (120 :: hexL (c.toNat / 16) :: hexL (c.toNat % 16) :: rest) = some (c, 3) := by
            have e120 : ((120 : UInt8)).toNat = 120 := rfl
            simp only [escL, e120, hexV_hexL _ (show c.toNat / 16 < 16 by omega), hexV_hexL _ (show c.toNat % 16 < 16 by omega)]
            rw [show 16 * (c.toNat / 16) + c.toNat % 16 = c.toNat from by omega]
            simp
          rw [this]
          simp
        · have hp : pieceL c (longL (c :: r)) ((c :: r).take (longL (c :: r))) = (c :: r).take (longL (c :: r)) := by unfold pieceL; rw [if_neg h1, if_neg h2, if_neg h3, if_neg h4]
          have hl0 : longL (c :: r) ≠ 0 := by omega
          have hle := (longL_le (c :: r)).1
          have hs : stepL (c :: r) = longL (c :: r) := by unfold stepL; omega
          have ht := long_take (c :: r) rest hl0
          obtain ⟨n, hn⟩ : ∃ n, longL (c :: r) = n + 1 := ⟨longL (c :: r) - 1, by omega⟩
          rw [hp, hs]
          rw [hn] at ht hle ⊢
          simp only [List.take_succ_cons, List.cons_append] at ht ⊢
          rw [unqL_cons, ht, if_neg (by omega), if_neg (by omega), if_neg (by omega)]
          simp only [List.length_cons] at hle
          have e1 : List.drop (n + 1) (c :: (List.take n r ++ rest)) = rest := by
            rw [List.drop_succ_cons, List.drop_append_of_le_length (by rw [List.length_take]; omega), List.drop_eq_nil_of_le (by rw [List.length_take]; omega), List.nil_append]
          have e2 : List.take (n + 1) (c :: (List.take n r ++ rest)) = c :: List.take n r := by
            rw [List.take_succ_cons, List.take_append_of_le_length (by rw [List.length_take]; omega), List.take_take, Nat.min_self]
          rw [e1, e2]
          simp only [List.length_cons, List.length_take, Nat.min_eq_left (show n ≤ r.length by omega)]
          rfl

theorem unq_body (l : List UInt8) (rest : List UInt8) : unqL (bodyL l ++ 34 :: rest) = some (l, (bodyL l).length + 1) := by
  induction l using chunk_ind with
  | h0 => rw [bodyL_nil, List.nil_append, unqL_cons, if_pos (by decide)]; rfl
  | h1 l hl ih =>
    cases l with
    | nil => exact absurd rfl hl
    | cons c r =>
      rw [bodyL_cons, List.append_assoc, unq_piece, ih]
      simp only [Option.map_some, List.length_append, List.take_append_drop]
      congr 2

/-- BACK. -/
theorem unquote_quote (l m : List UInt8) : unquoteL (quoteL l ++ m) = (l, ((quoteL l).length : Int), 0) := by
  unfold unquoteL quoteL
  have : (34 :: (bodyL l ++ [34]) ++ m).drop 1 = bodyL l ++ 34 :: m := by simp
  rw [this, unq_body]
  simp [finL]
  omega
theorem quoteL_inj {a b : List UInt8} (h : quoteL a = quoteL b) : a = b := by
  have h1 := unquote_quote a []
  rw [h, unquote_quote b []] at h1
  exact (congrArg (·.1) h1).symm

def plainB (c : UInt8) : Prop := 32 ≤ c.toNat ∧ c.toNat ≠ 127
theorem pieceL_plain (c : UInt8) (r : List UInt8) : ∀ x ∈ pieceL c (longL (c :: r)) ((c :: r).take (longL (c :: r))), plainB x := by
  have cl := c.toNat_lt
  intro x hx
  unfold pieceL at hx
  by_cases h1 : c.toNat = 92 ∨ c.toNat = 34
  · rw [if_pos h1] at hx
    simp only [List.mem_cons, List.mem_nil_iff, or_false] at hx
    rcases hx with rfl | rfl
    · exact ⟨by decide, by decide⟩
    · exact ⟨by omega, by omega⟩
  · rw [if_neg h1] at hx
    by_cases h2 : c.toNat = 10
    · rw [if_pos h2] at hx
      simp only [List.mem_cons, List.mem_nil_iff, or_false] at hx
      rcases hx with rfl | rfl <;> exact ⟨by decide, by decide⟩
    · rw [if_neg h2] at hx
      by_cases h3 : c.toNat = 9
      · rw [if_pos h3] at hx
        simp only [List.mem_cons, List.mem_nil_iff, or_false] at hx
        rcases hx with rfl | rfl <;> exact ⟨by decide, by decide⟩
      · rw [if_neg h3] at hx
        by_cases h4 : longL (c :: r) = 0 ∨ c.toNat < 32 ∨ c.toNat = 127
        · rw [if_pos h4] at hx
          simp only [List.mem_cons, List.mem_nil_iff, or_false] at hx
          rcases hx with rfl | rfl | rfl | rfl
          · exact ⟨by decide, by decide⟩
          · exact ⟨by decide, by decide⟩
          · exact hexL_plain _ (by omega)
          · exact hexL_plain _ (by omega)
        · rw [if_neg h4] at hx
          obtain ⟨k, hk, rfl⟩ := List.mem_take_iff_getElem.1 hx
          have hk1 : k < longL (c :: r) := by omega
          cases k with
          | zero => exact ⟨by simp; omega, by simp; omega⟩
          | succ k =>
            obtain ⟨y, hy, hge⟩ := long_cont (c :: r) (k + 1) (by omega) hk1
            rw [List.getElem?_eq_getElem (by omega)] at hy
            have := Option.some.inj hy
            rw [this]
            exact ⟨by omega, by omega⟩
theorem bodyL_plain (l : List UInt8) : ∀ x ∈ bodyL l, plainB x := by
  induction l using chunk_ind with
  | h0 => intro x hx; simp [bodyL_nil] at hx
  | h1 l hl ih =>
    cases l with
    | nil => exact absurd rfl hl
    | cons c r =>
      intro x hx
      rw [bodyL_cons, List.mem_append] at hx
      rcases hx with hx | hx
      · exact pieceL_plain c r x hx
      · exact ih x hx
theorem quoteL_plain (l : List UInt8) : ∀ x ∈ quoteL l, plainB x := by
  intro x hx
  unfold quoteL at hx
  rw [List.mem_cons, List.mem_append, List.mem_singleton] at hx
  rcases hx with rfl | hx | rfl
  · exact ⟨by decide, by decide⟩
  · exact bodyL_plain l x hx
  · exact ⟨by decide, by decide⟩
theorem quoteL_length (l : List UInt8) : (quoteL l).length ≤ 4 * l.length + 2 ∧ 2 ≤ (quoteL l).length := by
  have := bodyL_length l
  unfold quoteL
  simp only [List.length_cons, List.length_append, List.length_nil]
  omega

/-! ### Places -/

theorem place_one (l : List UInt8) : ∀ (m a b : Int), 1 ≤ a → 1 ≤ b → 1 ≤ (placeFrom l m a b).1 ∧ 1 ≤ (placeFrom l m a b).2 := by
  induction l using chunk_ind with
  | h0 => intro m a b ha hb; exact ⟨ha, hb⟩
  | h1 l hl ih =>
    intro m a b ha hb
    cases l with
    | nil => exact absurd rfl hl
    | cons c r =>
      by_cases h : m ≤ 0
      · rw [placeFrom_stop _ _ _ _ h]; exact ⟨ha, hb⟩
      · rw [placeFrom_step _ _ _ _ _ (by omega)]
        apply ih
        · split <;> omega
        · split <;> omega

theorem chunk_byte (c : UInt8) (r : List UInt8) (k : Nat) (h1 : 1 ≤ k) (h2 : k < stepL (c :: r)) : ∃ x, (c :: r)[k]? = some x ∧ x.toNat ≠ 10 := by
  have : k < longL (c :: r) := by unfold stepL at h2; omega
  obtain ⟨x, hx, hge⟩ := long_cont (c :: r) k h1 this
  exact ⟨x, hx, by omega⟩

/-- One place on. -/
theorem place_next (l : List UInt8) : ∀ (k : Nat) (x : UInt8) (a b : Int), l[k]? = some x →
    (x.toNat = 10 → placeFrom l (k + 1) a b = ((placeFrom l k a b).1 + 1, 1)) ∧
    (x.toNat ≠ 10 → (placeFrom l (k + 1) a b).1 = (placeFrom l k a b).1 ∧ ((placeFrom l (k + 1) a b).2 = (placeFrom l k a b).2 ∨ (placeFrom l (k + 1) a b).2 = (placeFrom l k a b).2 + 1)) := by
  induction l using chunk_ind with
  | h0 => intro k x a b h; simp at h
  | h1 l hl ih =>
    intro k x a b h
    cases l with
    | nil => exact absurd rfl hl
    | cons c r =>
      have hp := stepL_pos (c :: r)
      rw [placeFrom_step c r ((k : Int) + 1) a b (by omega)]
      by_cases hk : k = 0
      · subst hk
        have hx : c = x := by simpa using h
        subst hx
        rw [placeFrom_stop _ _ _ _ (by omega), placeFrom_stop (c :: r) _ _ _ (by simp)]
        constructor
        · intro h10; rw [if_pos h10, if_pos h10]
        · intro h10; rw [if_neg h10, if_neg h10]; exact ⟨rfl, .inr rfl⟩
      · rw [placeFrom_step c r (k : Int) a b (by omega)]
        by_cases hs : k < stepL (c :: r)
        · rw [placeFrom_stop _ _ _ _ (by omega), placeFrom_stop _ _ _ _ (by omega)]
          obtain ⟨y, hy, hne⟩ := chunk_byte c r k (by omega) hs
          rw [h] at hy
          have hxy := Option.some.inj hy
          subst hxy
          exact ⟨fun e => absurd e hne, fun _ => ⟨rfl, .inl rfl⟩⟩
        · have e1 : ((k : Int) + 1 - stepL (c :: r)) = (((k - stepL (c :: r) : Nat) : Int) + 1) := by omega
          have e2 : ((k : Int) - stepL (c :: r)) = (((k - stepL (c :: r) : Nat) : Int)) := by omega
          rw [e1, e2]
          apply ih
          rw [List.getElem?_drop, show stepL (c :: r) + (k - stepL (c :: r)) = k from by omega]
          exact h

theorem place_shift (l : List UInt8) : ∀ (m a b k : Int), placeFrom l m (a + k) b = ((placeFrom l m a b).1 + k, (placeFrom l m a b).2) := by
  induction l using chunk_ind with
  | h0 => intro m a b k; rfl
  | h1 l hl ih =>
    intro m a b k
    cases l with
    | nil => exact absurd rfl hl
    | cons c r =>
      by_cases h : m ≤ 0
      · rw [placeFrom_stop _ _ _ _ h, placeFrom_stop _ _ _ _ h]
      · rw [placeFrom_step _ _ _ _ _ (by omega), placeFrom_step c r m a b (by omega), ← ih]
        congr 1
        split <;> omega

/-- How many lines' ends a text has. -/
def endsL (l : List UInt8) : Nat := l.countP fun c => c.toNat == 10
theorem ends_chunk (c : UInt8) (r : List UInt8) : endsL (c :: r) = (if c.toNat = 10 then 1 else 0) + endsL ((c :: r).drop (stepL (c :: r))) := by
  have hp := stepL_pos (c :: r)
  obtain ⟨n, hn⟩ : ∃ n, stepL (c :: r) = n + 1 := ⟨stepL (c :: r) - 1, by omega⟩
  rw [hn, List.drop_succ_cons]
  unfold endsL
  rw [List.countP_cons]
  have hz : (r.take n).countP (fun c => c.toNat == 10) = 0 := by
    rw [List.countP_eq_zero]
    intro x hx
    obtain ⟨k, hk, rfl⟩ := List.mem_take_iff_getElem.1 hx
    obtain ⟨y, hy, hne⟩ := chunk_byte c r (k + 1) (by omega) (by omega)
    rw [List.getElem?_cons_succ, List.getElem?_eq_getElem (by omega)] at hy
    rw [Option.some.inj hy]
    simp [hne]
  have : r.countP (fun c => c.toNat == 10) = (r.drop n).countP (fun c => c.toNat == 10) := by
    conv => lhs; rw [← List.take_append_drop n r]
    rw [List.countP_append, hz, Nat.zero_add]
  rw [this]
  simp only [beq_iff_eq]
  omega

theorem place_line (a b : List UInt8) : ∀ (at' x y : Int), 0 ≤ at' → placeFrom (a ++ 10 :: b) (a.length + 1 + at') x y = placeFrom b at' (x + (endsL a + 1 : Nat)) 1 := by
  induction a using chunk_ind with
  | h0 =>
    intro at' x y h
    have hs : stepL (10 :: b) = 1 := step_odd 10 b (.inr (by decide))
    rw [List.nil_append, placeFrom_step _ _ _ _ _ (by simp; omega), hs, if_pos (by decide), if_pos (by decide)]
    simp [endsL]
    congr 1
    omega
  | h1 a ha ih =>
    intro at' x y h
    cases a with
    | nil => exact absurd rfl ha
    | cons c r =>
      have hl := long_line (c :: r) b ha
      have hs : stepL (c :: r ++ 10 :: b) = stepL (c :: r) := by unfold stepL; rw [hl]
      have hle := stepL_le (c :: r) ha
      have hp := stepL_pos (c :: r)
      have hd : (c :: r ++ 10 :: b).drop (stepL (c :: r)) = (c :: r).drop (stepL (c :: r)) ++ 10 :: b := List.drop_append_of_le_length hle.1
      rw [List.cons_append] at hs hd ⊢
      rw [placeFrom_step _ _ _ _ _ (by omega), hs, hd]
      have e : ((((c :: r).length : Nat) : Int) + 1 + at' - (stepL (c :: r) : Nat)) = ((((c :: r).drop (stepL (c :: r))).length : Nat) : Int) + 1 + at' := by
        rw [List.length_drop]; omega
      rw [e, ih _ _ _ h, ends_chunk c r]
      congr 1
      split <;> omega

/-! ### Two texts, quoted as one -/

theorem body_whole (c : UInt8) (r b : List UInt8) (h : longL (c :: r) ≠ 0) :
    bodyL (c :: r ++ b) = pieceL c (longL (c :: r)) ((c :: r).take (longL (c :: r))) ++ bodyL ((c :: r).drop (longL (c :: r)) ++ b) := by
  have hl := long_append (c :: r) b h
  have hle := (longL_le (c :: r)).1
  rw [List.cons_append] at hl ⊢
  rw [bodyL_cons, hl]
  have hs : stepL (c :: (r ++ b)) = longL (c :: r) := by unfold stepL; rw [hl]; omega
  rw [hs, ← List.cons_append, List.take_append_of_le_length hle, List.drop_append_of_le_length hle]
end Gl
end Go.Proofs.YthamcklkmchkiaaDoor
