/-
  DERIVED. LAYER 21 (show): a value as text, plain, over rows of nodes; and rows of nodes in memory.
-/
import Derived.Test.YthamcklkmchkiaaDoorShWrong
import Derived.Maps.AppendAt
import Derived.OwnWalk
namespace Go.Proofs.YthamcklkmchkiaaDoor
open Go.RowKit
namespace Sh
open Gl

/-- A node of a value, as its cells have it. -/
structure VN where
  k : Int
  lab : ByteArray
  nm : ByteArray
  num : Int
  many : Int
  tA : Option Addr
  tn : Nat
  tc : Nat
  uA : Option Addr
  un : Nat
  uc : Nat

/-- So many children, each by a function, with their labels: their texts, and how many nodes. -/
def rowsG (g : List VN → Option (List UInt8 × Nat)) : Nat → List VN → Option (List (List UInt8) × Nat)
  | 0, _ => some ([], 0)
  | _ + 1, [] => none
  | c + 1, n :: r => match g (n :: r) with
    | none => none
    | some (t, m) => match rowsG g c ((n :: r).drop m) with
      | none => none
      | some (ts, m') => some ((n.lab.data.toList ++ (58 :: 32 :: t)) :: ts, m + m')

/-- A value as text, and how many nodes it has. -/
def showF : Nat → List VN → Option (List UInt8 × Nat)
  | 0, _ => none
  | _ + 1, [] => none
  | f + 1, n :: r =>
    if n.k = 0 then some (Lib.itoa n.num, 1)
    else if n.k = 1 then some (if n.num = 1 then [116, 114, 117, 101] else [102, 97, 108, 115, 101], 1)
    else if n.k = 2 then some (quoteL n.nm.data.toList, 1)
    else if n.k = 3 then some ([40, 41], 1)
    else if n.k = 5 then (showF f r).map fun p => (91 :: (n.nm.data.toList ++ (58 :: 32 :: (p.1 ++ [93]))), 1 + p.2)
    else if n.k = 4 then (rowsG (showF f) n.many.toNat r).map fun p => (123 :: (Lib.join p.1 [44, 32] ++ [125]), 1 + p.2)
    else if n.k = 7 then (showF f r).map fun p => (p.1, 1 + p.2)
    else some ([60, 102, 117, 110, 62], 1)

/-- A node that may be: its number is one, its texts are short. -/
def VOk (n : VN) : Prop := -9223372036854775808 ≤ n.num ∧ n.num ≤ 9223372036854775807 ∧ n.lab.size ≤ 1000 ∧ n.nm.size ≤ 1000

def lens (ts : List (List UInt8)) : Nat := (ts.map fun t => t.length + 2).sum
theorem join_len : ∀ ts : List (List UInt8), (Lib.join ts [44, 32]).length ≤ lens ts
  | [] => by simp [Lib.join_nil]
  | [t] => by rw [Lib.join_one]; simp [lens]
  | t :: u :: r => by
    have h := join_len (u :: r)
    rw [Lib.join_cons] at h ⊢
    simp only [Lib.joinTail, List.map_cons, List.flatten_cons, List.length_append, List.length_cons, List.length_nil, lens, List.sum_cons] at h ⊢
    omega

theorem rows_len (g : List VN → Option (List UInt8 × Nat)) (hg : ∀ l t m, (∀ n ∈ l, VOk n) → g l = some (t, m) → t.length + 2000 ≤ 8000 * m ∧ m ≤ l.length) :
    ∀ (c : Nat) (l : List VN) (ts : List (List UInt8)) (m : Nat), (∀ n ∈ l, VOk n) → rowsG g c l = some (ts, m) → lens ts ≤ 8000 * m ∧ m ≤ l.length ∧ ts.length = c
  | 0, l, ts, m, _, h => by
    simp only [rowsG, Option.some.injEq, Prod.mk.injEq] at h
    obtain ⟨rfl, rfl⟩ := h
    simp [lens]
  | c + 1, [], ts, m, _, h => by simp [rowsG] at h
  | c + 1, n :: r, ts, m, hok, h => by
    simp only [rowsG] at h
    cases h1 : g (n :: r) with
    | none => rw [h1] at h; cases h
    | some p =>
      obtain ⟨t, m1⟩ := p
      rw [h1] at h
      simp only at h
      cases h2 : rowsG g c ((n :: r).drop m1) with
      | none => rw [h2] at h; cases h
      | some q =>
        obtain ⟨us, m2⟩ := q
        rw [h2] at h
        simp only [Option.some.injEq, Prod.mk.injEq] at h
        obtain ⟨rfl, rfl⟩ := h
        have a1 := hg _ _ _ hok h1
        have a2 := rows_len g hg c _ _ _ (fun x hx => hok x (List.mem_of_mem_drop hx)) h2
        have hl := (hok n (by simp)).2.2.1
        rw [List.length_drop] at a2
        simp only [lens, List.map_cons, List.sum_cons, List.length_append, List.length_cons, size_lab n] at a1 a2 ⊢
        omega
where size_lab (n : VN) : n.lab.data.toList.length = n.lab.size := Gl.size_data n.lab

theorem show_len : ∀ (f : Nat) (l : List VN) (t : List UInt8) (m : Nat), (∀ n ∈ l, VOk n) → showF f l = some (t, m) → t.length + 2000 ≤ 8000 * m ∧ m ≤ l.length
  | 0, l, t, m, _, h => by simp [showF] at h
  | f + 1, [], t, m, _, h => by simp [showF] at h
  | f + 1, n :: r, t, m, hok, h => by
    have hn := hok n (by simp)
    have hr : ∀ x ∈ r, VOk x := fun x hx => hok x (by simp [hx])
    have hnm : n.nm.data.toList.length = n.nm.size := Gl.size_data n.nm
    simp only [showF] at h
    by_cases h0 : n.k = 0
    · rw [if_pos h0] at h
      simp only [Option.some.injEq, Prod.mk.injEq] at h
      obtain ⟨rfl, rfl⟩ := h
      have := Shw.itoa_len n.num hn.1 hn.2.1
      simp only [List.length_cons]; omega
    · rw [if_neg h0] at h
      by_cases h1 : n.k = 1
      · rw [if_pos h1] at h
        simp only [Option.some.injEq, Prod.mk.injEq] at h
        obtain ⟨rfl, rfl⟩ := h
        split <;> simp
      · rw [if_neg h1] at h
        by_cases h2 : n.k = 2
        · rw [if_pos h2] at h
          simp only [Option.some.injEq, Prod.mk.injEq] at h
          obtain ⟨rfl, rfl⟩ := h
          have := (quoteL_length n.nm.data.toList).1
          have := hn.2.2.2
          simp only [List.length_cons]; omega
        · rw [if_neg h2] at h
          by_cases h3 : n.k = 3
          · rw [if_pos h3] at h
            simp only [Option.some.injEq, Prod.mk.injEq] at h
            obtain ⟨rfl, rfl⟩ := h
            simp
          · rw [if_neg h3] at h
            by_cases h5 : n.k = 5
            · rw [if_pos h5] at h
              cases hs : showF f r with
              | none => rw [hs] at h; cases h
              | some p =>
                rw [hs] at h
                simp only [Option.map_some, Option.some.injEq, Prod.mk.injEq] at h
                obtain ⟨rfl, rfl⟩ := h
                have a := show_len f r p.1 p.2 hr hs
                have := hn.2.2.2
                simp only [List.length_append, List.length_cons, List.length_nil] at a ⊢
                omega
            · rw [if_neg h5] at h
              by_cases h4 : n.k = 4
              · rw [if_pos h4] at h
                cases hs : rowsG (showF f) n.many.toNat r with
                | none => rw [hs] at h; cases h
                | some p =>
                  rw [hs] at h
                  simp only [Option.map_some, Option.some.injEq, Prod.mk.injEq] at h
                  obtain ⟨rfl, rfl⟩ := h
                  have a := rows_len (showF f) (fun l t m => show_len f l t m) n.many.toNat r p.1 p.2 hr hs
                  have b := join_len p.1
                  simp only [List.length_append, List.length_cons, List.length_nil]
                  omega
              · rw [if_neg h4] at h
                by_cases h7 : n.k = 7
                · rw [if_pos h7] at h
                  cases hs : showF f r with
                  | none => rw [hs] at h; cases h
                  | some p =>
                    rw [hs] at h
                    simp only [Option.map_some, Option.some.injEq, Prod.mk.injEq] at h
                    obtain ⟨rfl, rfl⟩ := h
                    have a := show_len f r p.1 p.2 hr hs
                    simp only [List.length_cons]
                    omega
                · rw [if_neg h7] at h
                  simp only [Option.some.injEq, Prod.mk.injEq] at h
                  obtain ⟨rfl, rfl⟩ := h
                  simp
end Sh
namespace Shw
open Gl Glw Sh

/-- From address (b, off) on lie the cells of these nodes. -/
def RdV (w : World) (b off : Nat) (l : List VN) : Prop := b < w.heap.size ∧ ∀ i n, l[i]? = some n → w.cell? ⟨b, off + i * 7, none⟩ = some (.int .i64 n.k) ∧ w.cell? ⟨b, off + i * 7 + 1, none⟩ = some (.string n.lab) ∧
  w.cell? ⟨b, off + i * 7 + 2, none⟩ = some (.string n.nm) ∧ w.cell? ⟨b, off + i * 7 + 3, none⟩ = some (.int .i64 n.num) ∧ w.cell? ⟨b, off + i * 7 + 4, none⟩ = some (.int .i64 n.many) ∧
  w.cell? ⟨b, off + i * 7 + 5, none⟩ = some (.slice n.tA n.tn n.tc) ∧ w.cell? ⟨b, off + i * 7 + 6, none⟩ = some (.slice n.uA n.un n.uc)
theorem RdV.since {w w' : World} {B b off : Nat} {l : List VN} (h : RdV w b off l) (hbB : b < B) (hb : Below B w w') : RdV w' b off l :=
  ⟨Nat.lt_of_lt_of_le h.1 hb.size, fun i t ht => by
    have hc : ∀ o, w'.cell? ⟨b, o, none⟩ = w.cell? ⟨b, o, none⟩ := fun o => hb.cell (p := ⟨b, o, none⟩) hbB
    rw [hc, hc, hc, hc, hc, hc, hc]
    exact h.2 i t ht⟩

/-- All but block R is as it was. -/
def Apart (R : Nat) (w w' : World) : Prop := w'.os = w.os ∧ w'.tape = w.tape ∧ w'.output = w.output ∧ w.heap.size ≤ w'.heap.size ∧ ∀ k, k < w.heap.size → k ≠ R → w'.heap[k]? = w.heap[k]?
theorem Apart.refl (R : Nat) (w : World) : Apart R w w := ⟨rfl, rfl, rfl, Nat.le_refl _, fun _ _ _ => rfl⟩
theorem Apart.trans {R : Nat} {a b c : World} (h : Apart R a b) (h' : Apart R b c) : Apart R a c :=
  ⟨h'.1.trans h.1, h'.2.1.trans h.2.1, h'.2.2.1.trans h.2.2.1, Nat.le_trans h.2.2.2.1 h'.2.2.2.1, fun k hk hn => (h'.2.2.2.2 k (Nat.lt_of_lt_of_le hk h.2.2.2.1) hn).trans (h.2.2.2.2 k hk hn)⟩
theorem Apart.of_below {R : Nat} {a b : World} (h : Below a.heap.size a b) : Apart R a b := ⟨h.os, h.tape, h.output, h.size, fun k hk _ => h.block k hk⟩
theorem Apart.set {R : Nat} {a b : World} (h : Apart R a b) (i : Nat) (v : Value) : Apart R a (b.setCell ⟨R, i, none⟩ v) :=
  h.trans ⟨rfl, rfl, rfl, by simp [World.setCell], fun k _ hn => Below.heap_setCell b ⟨R, i, none⟩ v k hn⟩
theorem Apart.below {R B : Nat} {a b : World} (h : Apart R a b) (hB : B ≤ R) (hs : B ≤ a.heap.size) : Below B a b := ⟨h.1, h.2.1, h.2.2.1, h.2.2.2.1, fun k hk => h.2.2.2.2 k (by omega) (by omega)⟩

theorem lt_of_cell {w : World} {a : Addr} {v : Value} (h : w.cell? a = some v) : a.block < w.heap.size := by
  rcases Nat.lt_or_ge a.block w.heap.size with h' | h'
  · exact h'
  · simp [World.cell?, Array.getElem?_eq_none h'] at h
theorem Apart.cell {R : Nat} {w w' : World} (h : Apart R w w') (a : Addr) (hlt : a.block < w.heap.size) (hne : a.block ≠ R) : w'.cell? a = w.cell? a := World.cell?_of_block (h.2.2.2.2 a.block hlt hne)

/-- The reader: in block R, a row of nodes and a place. -/
def Rd (w : World) (R b off n cap pos : Nat) : Prop := w.heap[R]? = some (.cells #[.slice (some ⟨b, off, none⟩) n cap, .int .i64 pos] 62 (0, 0))
section
variable {w w' : World} {R b off n cap pos : Nat}
theorem Rd.lt (h : Rd w R b off n cap pos) : R < w.heap.size := by
  rcases Nat.lt_or_ge R w.heap.size with h' | h'
  · exact h'
  · unfold Rd at h; rw [Array.getElem?_eq_none h'] at h; cases h
theorem Rd.cell0 (h : Rd w R b off n cap pos) : w.cell? ⟨R, 0, none⟩ = some (.slice (some ⟨b, off, none⟩) n cap) := by rw [Lib.cell_of_heap h]; rfl
theorem Rd.cell1 (h : Rd w R b off n cap pos) : w.cell? ⟨R, 1, none⟩ = some (.int .i64 pos) := by rw [Lib.cell_of_heap h]; rfl
theorem Rd.frozen (h : Rd w R b off n cap pos) (i : Nat) : w.frozen? ⟨R, i, none⟩ = false := Lib.frozen_of_heap h i
theorem Rd.below (h : Rd w R b off n cap pos) (hb : Below w.heap.size w w') : Rd w' R b off n cap pos := (hb.block R h.lt).trans h
theorem Rd.set (h : Rd w R b off n cap pos) (p : Nat) : Rd (w.setCell ⟨R, 1, none⟩ (.int .i64 p)) R b off n cap p := by
  unfold Rd at h ⊢
  simp [World.setCell, Array.getElem?_modify, h]
end
end Shw
end Go.Proofs.YthamcklkmchkiaaDoor
