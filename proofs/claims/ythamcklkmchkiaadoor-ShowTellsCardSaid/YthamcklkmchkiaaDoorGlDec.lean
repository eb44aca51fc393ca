/-
  DERIVED. How the plain functions of layer 1 stand to the model's own decoding of a rune: its length is longL's, its bytes are the text's own.
-/
import Derived.Test.YthamcklkmchkiaaDoorGl
namespace Go.Proofs.YthamcklkmchkiaaDoor
namespace Gl

theorem size_data (s : ByteArray) : s.data.toList.length = s.size := by rw [Array.length_toList]; rfl

theorem get_data (s : ByteArray) (i : Nat) (h : i < s.size) : s.data.toList[i]? = some (s.get! i) := by
  have h' : i < s.data.size := h
  rw [Array.getElem?_toList, Array.getElem?_eq_getElem h']
  congr 1
  simp only [ByteArray.get!]
  exact (getElem!_pos s.data i h').symm

theorem get_lt (s : ByteArray) (i : Nat) (h : i < s.size) : s[i]'h = s.get! i := by
  have h' : i < s.data.size := h
  simp only [ByteArray.get!]
  exact (getElem!_pos s.data i h').symm

theorem get_drop (s : ByteArray) (pos k : Nat) (h : pos + k < s.size) : (s.data.toList.drop pos)[k]? = some (s.get! (pos + k)) := by
  rw [List.getElem?_drop, get_data s _ h]

theorem cont_get (s : ByteArray) (pos k : Nat) (a b : Int) : contB (s.data.toList.drop pos) k a b = (decide (pos + k < s.size) && inB (s.get! (pos + k)).toNat a b) := by
  by_cases h : pos + k < s.size
  · unfold contB
    rw [get_drop s pos k h]
    simp [h]
  · unfold contB
    have : (s.data.toList.drop pos)[k]? = none := by
      rw [List.getElem?_drop, List.getElem?_eq_none]
      rw [size_data]; omega
    rw [this]
    simp [h]

theorem drop_cons (s : ByteArray) (pos : Nat) (h : pos < s.size) : s.data.toList.drop pos = s.get! pos :: s.data.toList.drop (pos + 1) := by
  have h' : pos < s.data.toList.length := by rw [size_data]; exact h
  rw [List.drop_eq_getElem_cons h']
  congr 1
  have := get_data s pos h
  rw [List.getElem?_eq_getElem h'] at this
  exact Option.some.inj this

theorem take_one (s : ByteArray) (pos : Nat) (h : pos < s.size) : (s.data.toList.drop pos).take 1 = [s.get! pos] := by
  rw [drop_cons s pos h]; rfl
theorem take_two (s : ByteArray) (pos : Nat) (h : pos + 1 < s.size) : (s.data.toList.drop pos).take 2 = [s.get! pos, s.get! (pos + 1)] := by
  rw [drop_cons s pos (by omega), drop_cons s (pos + 1) h]; rfl
theorem take_three (s : ByteArray) (pos : Nat) (h : pos + 2 < s.size) : (s.data.toList.drop pos).take 3 = [s.get! pos, s.get! (pos + 1), s.get! (pos + 2)] := by
  rw [drop_cons s pos (by omega), drop_cons s (pos + 1) (by omega), drop_cons s (pos + 2) h]; rfl
theorem take_four (s : ByteArray) (pos : Nat) (h : pos + 3 < s.size) : (s.data.toList.drop pos).take 4 = [s.get! pos, s.get! (pos + 1), s.get! (pos + 2), s.get! (pos + 3)] := by
  rw [drop_cons s pos (by omega), drop_cons s (pos + 1) (by omega), drop_cons s (pos + 2) (by omega), drop_cons s (pos + 3) h]; rfl

theorem byte_eq (x : UInt8) (z : Int) (h : z = x.toNat) : z.toNat.toUInt8 = x := by
  subst h
  rw [Int.toNat_natCast]
  exact UInt8.ofNat_toNat

/-- What the model's decoding does, by the bytes' numbers; n bytes are at hand. -/
def decN (b0 b1 b2 b3 n : Nat) : Nat × Nat :=
  if b0 < 128 then (b0, 1)
  else if b0 / 32 = 6 ∧ 1 < n ∧ b1 / 64 = 2 then
    if (b0 % 32) * 64 + b1 % 64 ≥ 128 then ((b0 % 32) * 64 + b1 % 64, 2) else (65533, 1)
  else if (b0 / 16 = 14 ∧ 1 < n ∧ b1 / 64 = 2) ∧ 2 < n ∧ b2 / 64 = 2 then
    if (b0 % 16) * 4096 + (b1 % 64) * 64 + b2 % 64 ≥ 2048 ∧ ((b0 % 16) * 4096 + (b1 % 64) * 64 + b2 % 64 < 55296 ∨ (57344 ≤ (b0 % 16) * 4096 + (b1 % 64) * 64 + b2 % 64 ∧ (b0 % 16) * 4096 + (b1 % 64) * 64 + b2 % 64 ≤ 1114111)) then ((b0 % 16) * 4096 + (b1 % 64) * 64 + b2 % 64, 3) else (65533, 1)
  else if ((b0 / 8 = 30 ∧ 1 < n ∧ b1 / 64 = 2) ∧ 2 < n ∧ b2 / 64 = 2) ∧ 3 < n ∧ b3 / 64 = 2 then
    if (b0 % 8) * 262144 + (b1 % 64) * 4096 + (b2 % 64) * 64 + b3 % 64 ≥ 65536 ∧ ((b0 % 8) * 262144 + (b1 % 64) * 4096 + (b2 % 64) * 64 + b3 % 64 < 55296 ∨ (57344 ≤ (b0 % 8) * 262144 + (b1 % 64) * 4096 + (b2 % 64) * 64 + b3 % 64 ∧ (b0 % 8) * 262144 + (b1 % 64) * 4096 + (b2 % 64) * 64 + b3 % 64 ≤ 1114111)) then ((b0 % 8) * 262144 + (b1 % 64) * 4096 + (b2 % 64) * 64 + b3 % 64, 4) else (65533, 1)
  else (65533, 1)

theorem ite_iff' {p q : Prop} [Decidable p] [Decidable q] {a b c d : Nat × Nat} (h : p ↔ q) (h1 : a = c) (h2 : b = d) : (if p then a else b) = if q then c else d := by
  by_cases hp : p
  · rw [if_pos hp, if_pos (h.1 hp), h1]
  · rw [if_neg hp, if_neg (fun x => hp (h.2 x)), h2]

theorem valid_iff (c : Nat) : Utf8.valid (c : Int) = true ↔ c < 55296 ∨ (57344 ≤ c ∧ c ≤ 1114111) := by
  simp [Utf8.valid]
  omega

theorem decode_decN (s : ByteArray) (pos : Nat) : Utf8.decode s pos = decN (s.get! pos).toNat (s.get! (pos + 1)).toNat (s.get! (pos + 2)).toNat (s.get! (pos + 3)).toNat (s.size - pos) := by
  simp only [Utf8.decode, decN, Utf8.runeError, Nat.add_zero]
  have e1 : pos + 1 < s.size ↔ 1 < s.size - pos := by omega
  have e2 : pos + 2 < s.size ↔ 2 < s.size - pos := by omega
  have e3 : pos + 3 < s.size ↔ 3 < s.size - pos := by omega
  refine ite_iff' Iff.rfl rfl (ite_iff' ?_ rfl (ite_iff' ?_ (ite_iff' ?_ rfl rfl) (ite_iff' ?_ (ite_iff' ?_ rfl rfl) rfl)))
  · simp only [Bool.and_eq_true, beq_iff_eq, decide_eq_true_eq, e1]
  · simp only [Bool.and_eq_true, beq_iff_eq, decide_eq_true_eq, e1, e2]
  · simp only [Bool.and_eq_true, valid_iff, decide_eq_true_eq]
  · simp only [Bool.and_eq_true, beq_iff_eq, decide_eq_true_eq, e1, e2, e3]
  · simp only [Bool.and_eq_true, valid_iff, decide_eq_true_eq]

/-- How long a rune is, by the bytes' numbers. -/
def longN (b0 b1 b2 b3 n : Nat) : Nat :=
  if b0 < 128 then 1
  else if (194 ≤ b0 ∧ b0 ≤ 223) ∧ (1 < n ∧ 128 ≤ b1 ∧ b1 ≤ 191) then 2
  else if (224 ≤ b0 ∧ b0 ≤ 239) ∧ (1 < n ∧ (if b0 = 224 then 160 else 128) ≤ b1 ∧ b1 ≤ (if b0 = 237 then 159 else 191)) ∧ (2 < n ∧ 128 ≤ b2 ∧ b2 ≤ 191) then 3
  else if (240 ≤ b0 ∧ b0 ≤ 244) ∧ (1 < n ∧ (if b0 = 240 then 144 else 128) ≤ b1 ∧ b1 ≤ (if b0 = 244 then 143 else 191)) ∧ (2 < n ∧ 128 ≤ b2 ∧ b2 ≤ 191) ∧ (3 < n ∧ 128 ≤ b3 ∧ b3 ≤ 191) then 4
  else 0

theorem ite_iff {p q : Prop} [Decidable p] [Decidable q] {a b c d : Nat} (h : p ↔ q) (h1 : a = c) (h2 : b = d) : (if p then a else b) = if q then c else d := by
  by_cases hp : p
  · rw [if_pos hp, if_pos (h.1 hp), h1]
  · rw [if_neg hp, if_neg (fun x => hp (h.2 x)), h2]

theorem cast_ite (p : Prop) [Decidable p] (a b : Nat) : (if p then (a : Int) else (b : Int)) = ((if p then a else b : Nat) : Int) := by
  by_cases h : p <;> simp [h]

theorem long_longN (s : ByteArray) (pos : Nat) (h : pos < s.size) : longL (s.data.toList.drop pos) = longN (s.get! pos).toNat (s.get! (pos + 1)).toNat (s.get! (pos + 2)).toNat (s.get! (pos + 3)).toNat (s.size - pos) := by
  have hd := drop_cons s pos h
  have hl : longL (s.data.toList.drop pos) = longL (s.get! pos :: s.data.toList.drop (pos + 1)) := by rw [hd]
  rw [hl, longL_cons]
  unfold longN twoB threeB fourB
  rw [← hd]
  simp only [cont_get, Bool.and_eq_true, inB_iff, decide_eq_true_eq]
  generalize (s.get! pos).toNat = b0
  generalize (s.get! (pos + 1)).toNat = b1
  generalize (s.get! (pos + 2)).toNat = b2
  generalize (s.get! (pos + 3)).toNat = b3
  clear hl hd
  refine ite_iff Iff.rfl rfl (ite_iff (by omega) rfl (ite_iff ?_ rfl (ite_iff ?_ rfl rfl)))
  · by_cases e1 : b0 = 224
    · rw [if_pos e1, if_pos e1, if_neg (by omega), if_neg (by omega)]; omega
    · rw [if_neg e1, if_neg e1]
      by_cases e2 : b0 = 237
      · rw [if_pos e2, if_pos e2]; omega
      · rw [if_neg e2, if_neg e2]; omega
  · by_cases e1 : b0 = 240
    · rw [if_pos e1, if_pos e1, if_neg (by omega), if_neg (by omega)]; omega
    · rw [if_neg e1, if_neg e1]
      by_cases e2 : b0 = 244
      · rw [if_pos e2, if_pos e2]; omega
      · rw [if_neg e2, if_neg e2]; omega

/-- The two agree: the length; the rune's bytes are the text's own. -/
theorem dec_long (b0 b1 b2 b3 n : Nat) (h0 : b0 < 256) (h1 : b1 < 256) (h2 : b2 < 256) (h3 : b3 < 256) :
    (longN b0 b1 b2 b3 n = 0 ∧ 128 ≤ b0 ∧ decN b0 b1 b2 b3 n = (65533, 1)) ∨
    (longN b0 b1 b2 b3 n = 1 ∧ b0 < 128 ∧ decN b0 b1 b2 b3 n = (b0, 1)) ∨
    (longN b0 b1 b2 b3 n = 2 ∧ 128 ≤ b0 ∧ 1 < n ∧ ∃ c, decN b0 b1 b2 b3 n = (c, 2) ∧ 128 ≤ c ∧ c ≤ 2047 ∧ 192 + c / 64 = b0 ∧ 128 + c % 64 = b1) ∨
    (longN b0 b1 b2 b3 n = 3 ∧ 128 ≤ b0 ∧ 2 < n ∧ ∃ c, decN b0 b1 b2 b3 n = (c, 3) ∧ (2048 ≤ c ∧ c < 55296 ∨ 57343 < c ∧ c ≤ 65535) ∧ 224 + c / 4096 = b0 ∧ 128 + c / 64 % 64 = b1 ∧ 128 + c % 64 = b2) ∨
    (longN b0 b1 b2 b3 n = 4 ∧ 128 ≤ b0 ∧ 3 < n ∧ ∃ c, decN b0 b1 b2 b3 n = (c, 4) ∧ 65536 ≤ c ∧ c ≤ 1114111 ∧ 240 + c / 262144 = b0 ∧ 128 + c / 4096 % 64 = b1 ∧ 128 + c / 64 % 64 = b2 ∧ 128 + c % 64 = b3) := by
  unfold longN decN
  by_cases e0 : b0 < 128
  · right; left; rw [if_pos e0, if_pos e0]; exact ⟨rfl, e0, rfl⟩
  · rw [if_neg e0, if_neg e0]
    have e0' : 128 ≤ b0 := by omega
    by_cases c1 : b0 / 32 = 6 ∧ 1 < n ∧ b1 / 64 = 2
    · rw [if_pos c1]
      by_cases d1 : b0 % 32 * 64 + b1 % 64 ≥ 128
      · rw [if_pos d1, if_pos (by omega)]
        right; right; left
        exact ⟨rfl, e0', c1.2.1, _, rfl, by omega, by omega, by omega, by omega⟩
      · rw [if_neg d1, if_neg (by omega), if_neg (by omega), if_neg (by omega)]
        left; exact ⟨rfl, e0', rfl⟩
    · rw [if_neg c1]
      by_cases c2 : (b0 / 16 = 14 ∧ 1 < n ∧ b1 / 64 = 2) ∧ 2 < n ∧ b2 / 64 = 2
      · rw [if_pos c2]
        by_cases d2 : b0 % 16 * 4096 + b1 % 64 * 64 + b2 % 64 ≥ 2048 ∧ (b0 % 16 * 4096 + b1 % 64 * 64 + b2 % 64 < 55296 ∨ 57344 ≤ b0 % 16 * 4096 + b1 % 64 * 64 + b2 % 64 ∧ b0 % 16 * 4096 + b1 % 64 * 64 + b2 % 64 ≤ 1114111)
        · rw [if_pos d2, if_neg (by omega), if_pos (by
            refine ⟨by omega, ⟨c2.1.2.1, ?_, ?_⟩, c2.2.1, by omega, by omega⟩
            · by_cases e : b0 = 224
              · rw [if_pos e]; omega
              · rw [if_neg e]; omega
            · by_cases e : b0 = 237
              · rw [if_pos e]; omega
              · rw [if_neg e]; omega)]
          right; right; right; left
          exact ⟨rfl, e0', c2.2.1, _, rfl, by omega, by omega, by omega, by omega⟩
        · rw [if_neg d2, if_neg (by omega), if_neg (by
            intro hh
            by_cases e : b0 = 224
            · rw [if_pos e] at hh; omega
            · by_cases e' : b0 = 237
              · rw [if_pos e'] at hh; omega
              · omega), if_neg (by omega)]
          left; exact ⟨rfl, e0', rfl⟩
      · rw [if_neg c2]
        by_cases c3 : ((b0 / 8 = 30 ∧ 1 < n ∧ b1 / 64 = 2) ∧ 2 < n ∧ b2 / 64 = 2) ∧ 3 < n ∧ b3 / 64 = 2
        · rw [if_pos c3]
          by_cases d3 : b0 % 8 * 262144 + b1 % 64 * 4096 + b2 % 64 * 64 + b3 % 64 ≥ 65536 ∧ (b0 % 8 * 262144 + b1 % 64 * 4096 + b2 % 64 * 64 + b3 % 64 < 55296 ∨ 57344 ≤ b0 % 8 * 262144 + b1 % 64 * 4096 + b2 % 64 * 64 + b3 % 64 ∧ b0 % 8 * 262144 + b1 % 64 * 4096 + b2 % 64 * 64 + b3 % 64 ≤ 1114111)
          · rw [if_pos d3, if_neg (by omega), if_neg (by omega), if_pos (by
              refine ⟨by omega, ⟨c3.1.1.2.1, ?_, ?_⟩, ⟨c3.1.2.1, by omega, by omega⟩, c3.2.1, by omega, by omega⟩
              · by_cases e : b0 = 240
                · rw [if_pos e]; omega
                · rw [if_neg e]; omega
              · by_cases e : b0 = 244
                · rw [if_pos e]; omega
                · rw [if_neg e]; omega)]
            right; right; right; right
            exact ⟨rfl, e0', c3.2.1, _, rfl, by omega, by omega, by omega, by omega, by omega, by omega⟩
          · rw [if_neg d3, if_neg (by omega), if_neg (by omega), if_neg (by
              intro hh
              by_cases e : b0 = 240
              · rw [if_pos e] at hh; omega
              · by_cases e' : b0 = 244
                · rw [if_pos e'] at hh; omega
                · omega)]
            left; exact ⟨rfl, e0', rfl⟩
        · rw [if_neg c3, if_neg (by omega), if_neg (by
              intro hh
              have := hh.2.1.2.1
              have : 128 ≤ b1 := by
                by_cases e : b0 = 224
                · rw [if_pos e] at this; omega
                · rw [if_neg e] at this; omega
              have h9 := hh.2.1.2.2
              have : b1 ≤ 191 := by
                by_cases e : b0 = 237
                · rw [if_pos e] at h9; omega
                · rw [if_neg e] at h9; omega
              omega), if_neg (by
              intro hh
              have := hh.2.1.2.1
              have : 128 ≤ b1 := by
                by_cases e : b0 = 240
                · rw [if_pos e] at this; omega
                · rw [if_neg e] at this; omega
              have h9 := hh.2.1.2.2
              have : b1 ≤ 191 := by
                by_cases e : b0 = 244
                · rw [if_pos e] at h9; omega
                · rw [if_neg e] at h9; omega
              omega)]
          left; exact ⟨rfl, e0', rfl⟩

/-- THE RUNE AT A PLACE OF A TEXT: no part of a rune: (U+FFFD, 1); a byte below 128: itself; else a rune of as many bytes as longL says, from 128 on, whose bytes are the text's own. -/
theorem decode_cases (s : ByteArray) (pos : Nat) (h : pos < s.size) :
    (longL (s.data.toList.drop pos) = 0 ∧ 128 ≤ (s.get! pos).toNat ∧ Utf8.decode s pos = (65533, 1)) ∨
    (longL (s.data.toList.drop pos) = 1 ∧ (s.get! pos).toNat < 128 ∧ Utf8.decode s pos = ((s.get! pos).toNat, 1)) ∨
    (2 ≤ longL (s.data.toList.drop pos) ∧ 128 ≤ (s.get! pos).toNat ∧ 128 ≤ (Utf8.decode s pos).1 ∧ (Utf8.decode s pos).2 = longL (s.data.toList.drop pos) ∧
      Lib.encodeRune (Utf8.decode s pos).1 = (s.data.toList.drop pos).take (longL (s.data.toList.drop pos))) := by
  have hb : ∀ k, (s.get! k).toNat < 256 := fun k => (s.get! k).toNat_lt
  have hh := dec_long (s.get! pos).toNat (s.get! (pos + 1)).toNat (s.get! (pos + 2)).toNat (s.get! (pos + 3)).toNat (s.size - pos) (hb _) (hb _) (hb _) (hb _)
  rw [← long_longN s pos h, ← decode_decN s pos] at hh
  rcases hh with ⟨h1, h2, h3⟩ | ⟨h1, h2, h3⟩ | ⟨h1, h2, hp, c, h3, h4, h5, h6, h7⟩ | ⟨h1, h2, hp, c, h3, h4, h5, h6, h7⟩ | ⟨h1, h2, hp, c, h3, h4, h5, h6, h7, h8, h9⟩
  · exact .inl ⟨h1, h2, h3⟩
  · exact .inr (.inl ⟨h1, h2, h3⟩)
  · refine .inr (.inr ⟨by omega, h2, ?_, ?_, ?_⟩)
    · rw [h3]; exact h4
    · rw [h3, h1]
    · rw [h3, h1, take_two s pos (by omega)]
      unfold Lib.encodeRune
      rw [Lib.encodeRuneZ_two (by simp only []; omega) (by simp only []; omega)]
      simp only [List.map_cons, List.map_nil]
      rw [byte_eq (s.get! pos) _ (by omega), byte_eq (s.get! (pos + 1)) _ (by omega)]
  · refine .inr (.inr ⟨by omega, h2, ?_, ?_, ?_⟩)
    · rw [h3]; simp only []; omega
    · rw [h3, h1]
    · rw [h3, h1, take_three s pos (by omega)]
      unfold Lib.encodeRune
      rw [Lib.encodeRuneZ_three (by simp only []; omega)]
      simp only [List.map_cons, List.map_nil]
      rw [byte_eq (s.get! pos) _ (by omega), byte_eq (s.get! (pos + 1)) _ (by omega), byte_eq (s.get! (pos + 2)) _ (by omega)]
  · refine .inr (.inr ⟨by omega, h2, ?_, ?_, ?_⟩)
    · rw [h3]; simp only []; omega
    · rw [h3, h1]
    · rw [h3, h1, take_four s pos (by omega)]
      unfold Lib.encodeRune
      rw [Lib.encodeRuneZ_four (by simp only []; omega) (by simp only []; omega)]
      simp only [List.map_cons, List.map_nil]
      rw [byte_eq (s.get! pos) _ (by omega), byte_eq (s.get! (pos + 1)) _ (by omega), byte_eq (s.get! (pos + 2)) _ (by omega), byte_eq (s.get! (pos + 3)) _ (by omega)]

/-- The step of a range over a text is stepL's. -/
theorem decode_step (s : ByteArray) (pos : Nat) (h : pos < s.size) : (Utf8.decode s pos).2 = stepL (s.data.toList.drop pos) := by
  rcases decode_cases s pos h with ⟨h1, _, h3⟩ | ⟨h1, _, h3⟩ | ⟨h1, _, _, h3, _⟩
  · rw [h3]; unfold stepL; rw [h1]; rfl
  · rw [h3]; unfold stepL; rw [h1]; rfl
  · rw [h3]; unfold stepL; omega
end Gl
end Go.Proofs.YthamcklkmchkiaaDoor
