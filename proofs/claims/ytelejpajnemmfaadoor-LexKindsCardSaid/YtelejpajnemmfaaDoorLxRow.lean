/-
  DERIVED. LAYER 2 (lex): tokens in memory: a row of blocks' cells; and the plain steps of reading tokens one by one.
-/
import Derived.Test.YtelejpajnemmfaaDoorLxNext
import Derived.Test.YtelejpajnemmfaaDoorLxPure2
import Derived.Maps.AppendAt
import Derived.Deep.AppendLies
import Derived.OwnWalk
namespace Go.Proofs.YtelejpajnemmfaaDoor
open Go.RowKit
namespace Lx
open Gl

/-- What has been read, ahead of what is still to be read. -/
def appR (done : List Tok) : Sum Nat (List Tok) → Sum Nat (List Tok)
  | .inl e => .inl e
  | .inr ts => .inr (done ++ ts)
theorem appR_nil (r : Sum Nat (List Tok)) : appR [] r = r := by cases r <;> rfl

theorem skip_idem (l : List UInt8) : skipM false (l.drop (skipM false l)) = 0 := by
  cases h : l.drop (skipM false l) with
  | nil => rfl
  | cons c r =>
    obtain ⟨h1, h2⟩ := skipM_head l false c r h
    simp only [skipM, h1, if_neg h2]; rfl
theorem tokL_after (pos : Nat) (l : List UInt8) : tokL pos l = tokL (pos + skipM false l) (l.drop (skipM false l)) :=
  tokL_skip pos (by rw [skip_idem]; rfl) rfl

/-- One token more. -/
theorem tok_step {S : List UInt8} {R : Sum Nat (List Tok)} {done : List Tok} {pos k m : Nat} {x : List UInt8} (h : R = appR done (tokL pos (S.drop pos))) (hs : skipM false (S.drop pos) = 0) (ho : oneL (S.drop pos) = some (k, x, m)) :
    R = appR (done ++ [⟨k, x, pos, pos + m⟩]) (tokL (pos + m + skipM false (S.drop (pos + m))) (S.drop (pos + m + skipM false (S.drop (pos + m))))) := by
  have hl := tokL_after (pos + m) (S.drop (pos + m))
  rw [List.drop_drop] at hl
  rw [← hl, h]
  cases hd : S.drop pos with
  | nil => rw [hd] at ho; simp [oneL] at ho
  | cons c r =>
    rw [hd] at ho hs
    rw [tokL_more (c := c) (r := r) (by rw [hs]; rfl) ho, hs, Nat.add_zero, ← hd, List.drop_drop]
    cases tokL (pos + m) (S.drop (pos + m)) with
    | inl e => rfl
    | inr ts => simp [appR]
theorem tok_bad {S : List UInt8} {R : Sum Nat (List Tok)} {done : List Tok} {pos : Nat} (h : R = appR done (tokL pos (S.drop pos))) (hp : pos < S.length) (hs : skipM false (S.drop pos) = 0) (ho : oneL (S.drop pos) = none) : R = .inl pos := by
  rw [h]
  cases hd : S.drop pos with
  | nil =>
    have := congrArg List.length hd
    rw [List.length_drop] at this
    simp only [List.length_nil] at this
    omega
  | cons c r =>
    rw [hd] at ho hs
    rw [tokL_bad (c := c) (r := r) (by rw [hs]; rfl) ho, hs]
    rfl
theorem tok_end {S : List UInt8} {R : Sum Nat (List Tok)} {done : List Tok} {pos : Nat} (h : R = appR done (tokL pos (S.drop pos))) (hp : pos = S.length) : R = .inr (done ++ [⟨0, [], pos, pos⟩]) := by
  rw [h, List.drop_eq_nil_of_le (by omega), tokL_nil]
  rfl
end Lx
namespace Lxw
open Gl Lx Glw

/-- A token's four cells. -/
def tokC (t : Tok) : List Value := [.int .i64 t.kind, .string ⟨t.text.toArray⟩, .int .i64 t.lo, .int .i64 t.hi]
def toksC : List Tok → List Value
  | [] => []
  | t :: ts => .int .i64 t.kind :: .string ⟨t.text.toArray⟩ :: .int .i64 t.lo :: .int .i64 t.hi :: toksC ts
theorem toksC_app : ∀ (a b : List Tok), toksC (a ++ b) = toksC a ++ toksC b
  | [], b => rfl
  | t :: a, b => by simp only [List.cons_append, toksC, toksC_app a b]
theorem toksC_length : ∀ (a : List Tok), (toksC a).length = a.length * 4
  | [] => rfl
  | t :: a => by simp only [toksC, List.length_cons, toksC_length a]; omega
theorem toksC_get : ∀ (a : List Tok) (i : Nat) (t : Tok), a[i]? = some t → (toksC a)[i * 4]? = some (.int .i64 t.kind) ∧ (toksC a)[i * 4 + 1]? = some (.string ⟨t.text.toArray⟩) ∧ (toksC a)[i * 4 + 2]? = some (.int .i64 t.lo) ∧ (toksC a)[i * 4 + 3]? = some (.int .i64 t.hi)
  | [], i, t, h => by simp at h
  | u :: a, 0, t, h => by simp at h; subst h; exact ⟨rfl, rfl, rfl, rfl⟩
  | u :: a, i + 1, t, h => by
    have := toksC_get a i t (by simpa using h)
    rw [show (i + 1) * 4 = i * 4 + 4 from by omega]
    exact this

/-- A slice of tokens that the call itself has made. -/
def Toks (w : World) (B : Nat) (v : Value) (ts : List Tok) : Prop := w.ownsRow B 31 4 v ts.length (toksC ts)
theorem Toks.lt {w : World} {B : Nat} {v : Value} {ts : List Tok} (h : Toks w B v ts) (g : Nat) (hg : v.ownBlock = some g) : B ≤ g ∧ g < w.heap.size := World.ownsRow.lt h g hg
theorem Toks.below {w w' : World} {B : Nat} {v : Value} {ts : List Tok} (h : Toks w B v ts) (hb : Below w.heap.size w w') : Toks w' B v ts :=
  World.ownsRow.kept (row := none) h ⟨hb.os, hb.tape, hb.output, hb.size, fun k hk _ => hb.block k hk⟩ (by cases hv : v.ownBlock <;> simp)
theorem Toks.drewN {w : World} {B : Nat} {v : Value} {ts : List Tok} (h : Toks w B v ts) (n : Nat) : Toks (w.drewN n) B v ts := h.below (below_drewN' (Below.refl _ _) n)
theorem Toks.apart {w w' : World} {B R : Nat} {v : Value} {ts : List Tok} (h : Toks w B v ts) (hb : Apart R w w') (hne : v.ownBlock ≠ some R) : Toks w' B v ts :=
  World.ownsRow.kept (row := some R) h ⟨hb.1, hb.2.1, hb.2.2.1, hb.2.2.2.1, fun k hk hn => hb.2.2.2.2 k hk (fun e => hn (by rw [e]))⟩ (.inr hne)
theorem Toks.nil_ (w : World) (B : Nat) : Toks w B (.slice none 0 0) [] := World.ownsRow_nil w B _ 4

theorem Below.of_grown {B : Nat} {a w w' : World} {row : Option Nat} (h : Below B a w) (hg : w.grownBy w' row) (hB : B ≤ w.heap.size) (hr : ∀ k, row = some k → B ≤ k) : Below B a w' :=
  ⟨hg.os.trans h.os, hg.tape.trans h.tape, hg.output.trans h.output, Nat.le_trans h.size hg.size, fun k hk => (hg.block k (by omega) (fun e => by have := hr k e.symm; omega)).trans (h.block k hk)⟩

theorem infoTok : (Tryd.prog.info? 31).map (fun i => (i.zero, i.size, i.bytes)) = some (some (.agg #[.int .i64 0, .string ⟨#[]⟩, .int .i64 0, .int .i64 0]), 4, 40) := by kernel_rfl

theorem tokC_one (t : Tok) : ∀ u ∈ tokC t, u.oneCell' = true := by
  intro u hu
  simp only [tokC, List.mem_cons, List.not_mem_nil, or_false] at hu
  rcases hu with rfl | rfl | rfl | rfl <;> rfl

/-- What 'Tokens' hands back: the tokens, in new memory; or where there is none. -/
def TokIs (B : Nat) (l : List UInt8) (e : Ending) (w' : World) : Prop :=
  match tokL 0 l with
  | .inl p => e = .returned (.tuple #[.slice none 0 0, .int .i64 p, .int .i64 2])
  | .inr ts => ∃ v, e = .returned (.tuple #[v, .int .i64 0, .int .i64 0]) ∧ Toks w' B v ts
end Lxw
end Go.Proofs.YtelejpajnemmfaaDoor
