/-
  DERIVED. LAYER 21 (show): rows of texts of a call's own; and the rounds over a row's children.
-/
import Derived.Test.YthamcklkmchkiaaDoorShVal
namespace Go.Proofs.YthamcklkmchkiaaDoor
open Go.RowKit
namespace Sh
open Gl

theorem rows_step {g : List VN → Option (List UInt8 × Nat)} {c : Nat} {l : List VN} {ts : List (List UInt8)} {m : Nat} (h : rowsG g (c + 1) l = some (ts, m)) :
    ∃ n r t m1 us m2, l = n :: r ∧ g l = some (t, m1) ∧ rowsG g c (l.drop m1) = some (us, m2) ∧ ts = (n.lab.data.toList ++ (58 :: 32 :: t)) :: us ∧ m = m1 + m2 := by
  cases l with
  | nil => simp [rowsG] at h
  | cons n r =>
    simp only [rowsG] at h
    cases h1 : g (n :: r) with
    | none => rw [h1] at h; cases h
    | some p =>
      obtain ⟨t, m1⟩ := p
      rw [h1] at h
      simp only at h
      cases h2 : rowsG g c ((n :: r).drop m1) with
      | none => rw [h2] at h; cases h
      | some q =>
        obtain ⟨us, m2⟩ := q
        rw [h2] at h
        simp only [Option.some.injEq, Prod.mk.injEq] at h
        obtain ⟨rfl, rfl⟩ := h
        exact ⟨n, r, t, m1, us, m2, rfl, rfl, h2, rfl, rfl⟩
theorem lens_ge : ∀ ts : List (List UInt8), 2 * ts.length ≤ lens ts
  | [] => by simp [lens]
  | t :: ts => by
    have := lens_ge ts
    simp only [lens, List.map_cons, List.sum_cons, List.length_cons] at this ⊢
    omega
theorem lens_mem : ∀ (ts : List (List UInt8)) (t : List UInt8), t ∈ ts → t.length ≤ lens ts
  | u :: ts, t, h => by
    simp only [lens, List.map_cons, List.sum_cons]
    rcases List.mem_cons.1 h with rfl | h
    · omega
    · have := lens_mem ts t h
      simp only [lens] at this
      omega
end Sh
namespace Shw
open Gl Glw Sh

theorem Below.of_grown {B : Nat} {a w w' : World} {row : Option Nat} (h : Below B a w) (hg : w.grownBy w' row) (hB : B ≤ w.heap.size) (hr : ∀ k, row = some k → B ≤ k) : Below B a w' :=
  h.trans ⟨hg.os, hg.tape, hg.output, hg.size, fun k hk => hg.block k (by omega) (fun e => by have := hr k e.symm; omega)⟩
theorem infoStr : (Tryd.prog.info? 9).map (fun i => (i.zero, i.size, i.bytes)) = some (some (.string ⟨#[]⟩), 1, 16) := by kernel_rfl

/-- A slice of texts of the call's own. -/
def Strs (w : World) (B : Nat) (v : Value) (xs : List ByteArray) : Prop := w.ownsRow B 9 1 v xs.length (xs.map Value.string)
theorem Strs.lt {w : World} {B : Nat} {v : Value} {xs : List ByteArray} (h : Strs w B v xs) (g : Nat) (hg : v.ownBlock = some g) : B ≤ g ∧ g < w.heap.size := World.ownsRow.lt h g hg
theorem Strs.below {w w' : World} {B : Nat} {v : Value} {xs : List ByteArray} (h : Strs w B v xs) (hb : Below w.heap.size w w') : Strs w' B v xs :=
  World.ownsRow.kept (row := none) h ⟨hb.os, hb.tape, hb.output, hb.size, fun k hk _ => hb.block k hk⟩ (by cases hv : v.ownBlock <;> simp)
theorem Strs.apart {w w' : World} {R B : Nat} {v : Value} {xs : List ByteArray} (h : Strs w B v xs) (hb : Apart R w w') (hR : R < B) : Strs w' B v xs :=
  World.ownsRow.kept (row := some R) h ⟨hb.1, hb.2.1, hb.2.2.1, hb.2.2.2.1, fun k hk hn => hb.2.2.2.2 k hk (fun e => hn (by rw [e]))⟩ (by
    cases hv : v.ownBlock with
    | none => exact .inl rfl
    | some g =>
      refine .inr (fun e => ?_)
      have := (h.lt g hv).1
      simp only [Option.some.injEq] at e
      omega)
theorem Strs.nil_ (w : World) (B : Nat) : Strs w B (.slice none 0 0) [] := World.ownsRow_nil w B _ 1

theorem join_own (sep : ByteArray) (v : Value) (B : Nat) (xs : List ByteArray) (w : World) (hO : Strs w B v xs) (hN : xs.length ≤ 140737488355328) (hlen : (Lib.join (xs.map (·.data.toList)) sep.data.toList).length ≤ 140737488355328) :
    Calls Tryd.prog 38 #[v, .string sep] w fun e w' => e = .returned (.string ⟨(Lib.join (xs.map (·.data.toList)) sep.data.toList).toArray⟩) ∧ Below w.heap.size w w' := by
  rcases hO.2 with ⟨rfl, h0⟩ | ⟨g, cap, cur, rfl, hB, hg, hn, hm, hcs, htk⟩
  · have hx : xs = [] := List.eq_nil_of_length_eq_zero h0
    subst hx
    refine (Tryd.strings_Join_none none 0 sep w).mono ?_
    rintro e w' ⟨rfl, rfl⟩
    exact ⟨rfl, Below.refl _ _⟩
  · refine Tryd.strings_Join g 0 cap xs sep w (fun j x hx => ?_) (Array.getElem?_eq_some_iff.1 hg).1 hN hn hlen
    have hc := World.ownsRow.cells hO (g := g) rfl j (.string x) (by rw [List.getElem?_map, hx]; rfl)
    have hadd : (⟨g, 0, none⟩ : Addr).add j = ⟨g, 0 + j, none⟩ := by unfold Addr.add; split <;> simp_all
    rw [hadd] at hc
    exact hc

/-- In the rounds over a row's children. -/
def SRel (W : World) (R b off cap : Nat) (L : List VN) (g : List VN → Option (List UInt8 × Nat)) (M : Nat) (all : List (List UInt8)) (tot : Nat) (v i : Value) (wr : World) : Prop :=
  ∃ (k pos : Nat) (done : List ByteArray) (rest : List (List UInt8)) (ms : Nat), i = .int .i64 k ∧ k ≤ M ∧ done.length = k ∧ Rd wr R b off L.length cap pos ∧ Apart R W wr ∧ Strs wr W.heap.size v done ∧
    rowsG g (M - k) (L.drop pos) = some (rest, ms) ∧ done.map (·.data.toList) ++ rest = all ∧ pos + ms = tot

theorem Apart.of_grown {R : Nat} {a w w' : World} {row : Option Nat} (h : Apart R a w) (hg : w.grownBy w' row) (hr : ∀ k, row = some k → a.heap.size ≤ k) : Apart R a w' :=
  ⟨hg.os.trans h.1, hg.tape.trans h.2.1, hg.output.trans h.2.2.1, Nat.le_trans h.2.2.2.1 hg.size, fun k hk hn => (hg.block k (Nat.lt_of_lt_of_le hk h.2.2.2.1) (fun e => by have := hr k e.symm; omega)).trans (h.2.2.2.2 k hk hn)⟩
theorem Rd.grown {w w' : World} {R b off n cap pos : Nat} {row : Option Nat} (h : Rd w R b off n cap pos) (hg : w.grownBy w' row) (hr : row ≠ some R) : Rd w' R b off n cap pos :=
  (hg.block R h.lt (fun e => hr e.symm)).trans h
end Shw
end Go.Proofs.YthamcklkmchkiaaDoor
