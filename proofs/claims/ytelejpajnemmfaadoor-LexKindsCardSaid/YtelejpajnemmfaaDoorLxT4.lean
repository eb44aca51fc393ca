/-
  DERIVED. LAYER 2 (lex): a slice of tokens, read: four cells a token; tokens joined, plain.
-/
import Derived.Test.YtelejpajnemmfaaDoorLxTokens
namespace Go.Proofs.YtelejpajnemmfaaDoor
open Go.RowKit
namespace Lxw
open Gl Lx Glw

/-- A token as its cells have it: any numbers. -/
structure T4 where
  k : Int
  x : ByteArray
  lo : Int
  hi : Int
def t4 (t : Tok) : T4 := ⟨t.kind, ⟨t.text.toArray⟩, t.lo, t.hi⟩

/-- From address (b, off) on lie the cells of these tokens. -/
def Rd4 (w : World) (b off : Nat) (l : List T4) : Prop := b < w.heap.size ∧ ∀ i t, l[i]? = some t → w.cell? ⟨b, off + i * 4, none⟩ = some (.int .i64 t.k) ∧ w.cell? ⟨b, off + i * 4 + 1, none⟩ = some (.string t.x) ∧
  w.cell? ⟨b, off + i * 4 + 2, none⟩ = some (.int .i64 t.lo) ∧ w.cell? ⟨b, off + i * 4 + 3, none⟩ = some (.int .i64 t.hi)
theorem Rd4.below {w w' : World} {b off : Nat} {l : List T4} (h : Rd4 w b off l) (hb : Below w.heap.size w w') : Rd4 w' b off l :=
  ⟨Nat.lt_of_lt_of_le h.1 hb.size, fun i t ht => by
    have hc : ∀ o, w'.cell? ⟨b, o, none⟩ = w.cell? ⟨b, o, none⟩ := fun o => hb.cell (p := ⟨b, o, none⟩) h.1
    rw [hc, hc, hc, hc]
    exact h.2 i t ht⟩
theorem Rd4.since {w w' : World} {B b off : Nat} {l : List T4} (h : Rd4 w b off l) (hbB : b < B) (hb : Below B w w') : Rd4 w' b off l :=
  ⟨Nat.lt_of_lt_of_le h.1 hb.size, fun i t ht => by
    have hc : ∀ o, w'.cell? ⟨b, o, none⟩ = w.cell? ⟨b, o, none⟩ := fun o => hb.cell (p := ⟨b, o, none⟩) hbB
    rw [hc, hc, hc, hc]
    exact h.2 i t ht⟩

/-- Tokens of the call's own, read. -/
theorem Toks.rd4 {w : World} {B : Nat} {v : Value} {ts : List Tok} (h : Toks w B v ts) (hne : ts ≠ []) : ∃ g cap, v = .slice (some ⟨g, 0, none⟩) ts.length cap ∧ B ≤ g ∧ ts.length ≤ cap ∧ Rd4 w g 0 (ts.map t4) := by
  have hl : 0 < ts.length := List.length_pos_iff.2 hne
  rcases h.2 with ⟨_, h0⟩ | ⟨g, cap, cur, rfl, hB, hg, hn, hm, hcs, htk⟩
  · omega
  · refine ⟨g, cap, rfl, hB, hn, (Array.getElem?_eq_some_iff.1 hg).1, fun i t ht => ?_⟩
    rw [List.getElem?_map] at ht
    cases hu : ts[i]? with
    | none => rw [hu] at ht; simp at ht
    | some u =>
      rw [hu] at ht
      simp only [Option.map_some, Option.some.injEq] at ht
      subst ht
      have hc : ∀ j x, (toksC ts)[j]? = some x → w.cell? ⟨g, 0 + j, none⟩ = some x := by
        intro j x hx
        have := World.ownsRow.cells h (g := g) rfl j x hx
        have hadd : (⟨g, 0, none⟩ : Addr).add j = ⟨g, 0 + j, none⟩ := by unfold Addr.add; split <;> simp_all
        rw [hadd] at this
        exact this
      obtain ⟨h0, h1, h2, h3⟩ := toksC_get ts i u hu
      exact ⟨hc _ _ h0, hc _ _ h1, hc _ _ h2, hc _ _ h3⟩

/-- A token's bytes, joined. -/
def str4 (t : T4) : ByteArray := if t.k = 4 then ⟨(quoteL t.x.data.toList).toArray⟩ else t.x
theorem str4_t4 (t : Tok) : (str4 (t4 t)).data.toList = bytesOf t := by
  unfold str4 t4 bytesOf
  by_cases h : t.kind = 4
  · rw [if_pos (by simp only; omega), if_pos h]
  · rw [if_neg (by simp only; omega), if_neg h]
theorem str4_size (t : T4) : (str4 t).size ≤ 4 * t.x.size + 2 := by
  unfold str4
  by_cases h : t.k = 4
  · rw [if_pos h, mk_size]
    have := (quoteL_length t.x.data.toList).1
    rw [size_data] at this
    exact this
  · rw [if_neg h]; omega
/-- All tokens but the last one, as bytes, with blanks between. -/
def join4 (l : List T4) : List UInt8 := Lib.join ((l.dropLast.map str4).map (·.data.toList)) [32]

theorem join_map : ∀ ts : List Tok, Lib.join (ts.dropLast.map bytesOf) [32] = joinL ts
  | [] => rfl
  | [t] => rfl
  | [t, u] => by
    show Lib.join [bytesOf t] [32] = _
    rw [Lib.join_one]; rfl
  | t :: u :: v :: r => by
    have ih := join_map (u :: v :: r)
    show Lib.join (bytesOf t :: ((u :: v :: r).dropLast.map bytesOf)) [32] = _
    rw [Lib.join_cons]
    show bytesOf t ++ Lib.joinTail [32] (bytesOf u :: ((v :: r).dropLast.map bytesOf)) = bytesOf t ++ 32 :: joinL (u :: v :: r)
    rw [← ih]
    show bytesOf t ++ Lib.joinTail [32] (bytesOf u :: ((v :: r).dropLast.map bytesOf)) = bytesOf t ++ 32 :: Lib.join (bytesOf u :: ((v :: r).dropLast.map bytesOf)) [32]
    rw [Lib.join_cons]
    rfl
theorem join4_toks (ts : List Tok) : join4 (ts.map t4) = joinL ts := by
  unfold join4
  rw [← join_map, ← List.map_dropLast, List.map_map, List.map_map]
  congr 1
  apply List.map_congr_left
  intro t _
  exact str4_t4 t
end Lxw
end Go.Proofs.YtelejpajnemmfaaDoor
