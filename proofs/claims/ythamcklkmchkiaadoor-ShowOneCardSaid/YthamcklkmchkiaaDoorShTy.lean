/-
  DERIVED. LAYER 3 (ty), as the reference has it: types as rows of nodes, plain; and in memory.
-/
import Derived.Test.YthamcklkmchkiaaDoorShKids
namespace Go.Proofs.YthamcklkmchkiaaDoor
open Go.RowKit
namespace Sh
open Gl

/-- A node of a type. -/
structure TN where
  k : Int
  nm : ByteArray
  n : Int
def manyT (t : TN) : Int := if t.k = 5 then 2 else if t.k = 6 then t.n else if t.k = 7 then t.n else 0
def stepTy (o : Int) (t : TN) : Int := wrap64 (wrap64 (o - 1) + manyT t)
def endTo : Int → List TN → Nat
  | _, [] => 0
  | o, t :: r => if stepTy o t = 0 then 1 else 1 + endTo (stepTy o t) r
def endT (l : List TN) : Nat := endTo 1 l
/-- The places of so many children, the first one's given. -/
def kidPos (L : List TN) : Nat → Nat → List Nat
  | 0, _ => []
  | c + 1, i => if i < L.length then i :: kidPos L c (i + endT (L.drop i)) else []
def bareT : List TN → List TN
  | [] => []
  | t :: r => ⟨t.k, ⟨#[]⟩, t.n⟩ :: r
def partT (L : List TN) (i : Nat) : List TN := bareT ((L.drop i).take (endT (L.drop i)))
/-- The places of a node's children. -/
def kidsT (L : List TN) (i : Nat) : List Nat := match L[i]? with
  | none => []
  | some t => kidPos L (manyT t).toNat (i + 1)
/-- A node's number is such as it may be, and its kind. -/
def NumOk (t : TN) : Prop := ((t.k = 0 ∨ t.k = 8 ∨ t.k = 9) ∧ 0 ≤ t.n) ∨ ((t.k = 1 ∨ t.k = 2 ∨ t.k = 3 ∨ t.k = 4 ∨ t.k = 5) ∧ t.n = 0) ∨ (t.k = 6 ∧ 0 ≤ t.n ∧ t.n ≤ 50) ∨ (t.k = 7 ∧ 1 ≤ t.n ∧ t.n ≤ 50)

theorem endTo_le : ∀ (l : List TN) (o : Int), endTo o l ≤ l.length
  | [], o => by rw [endTo]; exact Nat.le_refl _
  | n :: r, o => by
    rw [endTo, List.length_cons]
    split
    · omega
    · have := endTo_le r (stepTy o n); omega
theorem endTo_pos (n : TN) (r : List TN) (o : Int) : 1 ≤ endTo o (n :: r) := by
  rw [endTo]; split <;> omega
theorem endT_drop (L : List TN) (k : Nat) (hk : k < L.length) : 1 ≤ endT (L.drop k) ∧ k + endT (L.drop k) ≤ L.length := by
  have h := endTo_le (L.drop k) 1
  rw [List.length_drop] at h
  have := endTo_pos (L[k]) (L.drop (k + 1)) 1
  rw [← List.drop_eq_getElem_cons hk] at this
  unfold endT
  exact ⟨this, by omega⟩
theorem endTo_step (o : Int) (L : List TN) (k : Nat) (n : TN) (h : L[k]? = some n) : endTo o (L.drop k) = if stepTy o n = 0 then 1 else 1 + endTo (stepTy o n) (L.drop (k + 1)) := by
  have hk : k < L.length := by
    rcases Nat.lt_or_ge k L.length with h' | h'
    · exact h'
    · rw [List.getElem?_eq_none h'] at h; cases h
  rw [List.getElem?_eq_getElem hk] at h
  rw [List.drop_eq_getElem_cons hk, Option.some.inj h, endTo]
theorem bareT_len : ∀ l : List TN, (bareT l).length = l.length
  | [] => rfl
  | _ :: _ => rfl
theorem partT_len (L : List TN) (k : Nat) (hk : k < L.length) : (partT L k).length = endT (L.drop k) := by
  have := endT_drop L k hk
  unfold partT
  rw [bareT_len, List.length_take, List.length_drop]
  omega
theorem kidPos_lt (L : List TN) : ∀ (c i p : Nat), p ∈ kidPos L c i → i ≤ p ∧ p < L.length
  | 0, i, p, h => by simp [kidPos] at h
  | c + 1, i, p, h => by
    rw [kidPos] at h
    split at h
    · rename_i hi
      rcases List.mem_cons.1 h with rfl | h
      · exact ⟨Nat.le_refl _, hi⟩
      · have := kidPos_lt L c _ p h
        omega
    · simp at h
theorem kidPos_len (L : List TN) : ∀ (c i : Nat), (kidPos L c i).length ≤ c ∧ (kidPos L c i).length ≤ L.length - i
  | 0, i => by simp [kidPos]
  | c + 1, i => by
    rw [kidPos]
    split
    · rename_i hi
      have := kidPos_len L c (i + endT (L.drop i))
      have := endT_drop L i hi
      rw [List.length_cons]
      omega
    · simp
end Sh
namespace Shw
open Gl Glw Sh

def tnC (n : TN) : List Go.Value := [.int .i64 n.k, .string n.nm, .int .i64 n.n]
def tnsC : List TN → List Go.Value
  | [] => []
  | n :: l => tnC n ++ tnsC l
/-- From address (b, off) on lie the cells of these nodes. -/
def RdT (w : World) (b off : Nat) (l : List TN) : Prop := b < w.heap.size ∧ ∀ i n, l[i]? = some n → w.cell? ⟨b, off + i * 3, none⟩ = some (.int .i64 n.k) ∧ w.cell? ⟨b, off + i * 3 + 1, none⟩ = some (.string n.nm) ∧ w.cell? ⟨b, off + i * 3 + 2, none⟩ = some (.int .i64 n.n)
theorem RdT.since {w w' : World} {B b off : Nat} {l : List TN} (h : RdT w b off l) (hbB : b < B) (hb : Below B w w') : RdT w' b off l :=
  ⟨Nat.lt_of_lt_of_le h.1 hb.size, fun i t ht => by
    have hc : ∀ o, w'.cell? ⟨b, o, none⟩ = w.cell? ⟨b, o, none⟩ := fun o => hb.cell (p := ⟨b, o, none⟩) hbB
    rw [hc, hc, hc]
    exact h.2 i t ht⟩
theorem RdT.at_ {w : World} {b off : Nat} {L : List TN} (h : RdT w b off L) {k : Nat} (hk : k < L.length) : ∃ n, L[k]? = some n ∧ w.cell? ⟨b, off + k * 3, none⟩ = some (.int .i64 n.k) ∧ w.cell? ⟨b, off + k * 3 + 1, none⟩ = some (.string n.nm) ∧ w.cell? ⟨b, off + k * 3 + 2, none⟩ = some (.int .i64 n.n) :=
  ⟨L[k], List.getElem?_eq_getElem hk, h.2 k _ (List.getElem?_eq_getElem hk)⟩
theorem tnsC_len : ∀ l : List TN, (tnsC l).length = l.length * 3
  | [] => rfl
  | n :: l => by rw [tnsC, List.length_append, tnsC_len l, List.length_cons]; simp only [tnC, List.length_cons, List.length_nil]; omega
theorem tnsC_at : ∀ (l : List TN) (i : Nat) (n : TN) (j : Nat), l[i]? = some n → j < 3 → (tnsC l)[i * 3 + j]? = (tnC n)[j]?
  | [], i, n, j, h, _ => by simp at h
  | m :: l, 0, n, j, h, hj => by
    simp only [List.getElem?_cons_zero, Option.some.injEq] at h
    subst h
    rw [tnsC, Nat.zero_mul, Nat.zero_add, List.getElem?_append_left (by simpa [tnC] using hj)]
  | m :: l, i + 1, n, j, h, hj => by
    rw [tnsC, List.getElem?_append_right (by simp only [tnC, List.length_cons, List.length_nil]; omega), ← tnsC_at l i n j (by simpa using h) hj]
    congr 1
    simp only [tnC, List.length_cons, List.length_nil]; omega
theorem tnsC_split : ∀ (l : List TN) (j : Nat) (u : Go.Value), (tnsC l)[j]? = some u → ∃ i n r, j = i * 3 + r ∧ r < 3 ∧ l[i]? = some n ∧ (tnC n)[r]? = some u
  | [], j, u, h => by simp [tnsC] at h
  | n :: l, j, u, h => by
    rw [tnsC] at h
    rcases Nat.lt_or_ge j 3 with hj | hj
    · rw [List.getElem?_append_left (by simpa [tnC] using hj)] at h
      exact ⟨0, n, j, by omega, hj, rfl, h⟩
    · rw [List.getElem?_append_right (by simpa [tnC] using hj)] at h
      obtain ⟨i, m, r, e, hr, hm, hu⟩ := tnsC_split l _ u h
      have : (tnC n).length = 3 := rfl
      rw [this] at e
      exact ⟨i + 1, m, r, by omega, hr, by simpa using hm, hu⟩
theorem tnsC_one (l : List TN) : ∀ u ∈ tnsC l, u.oneCell' = true := by
  intro u hu
  obtain ⟨j, hj, rfl⟩ := List.getElem_of_mem hu
  obtain ⟨i, n, r, _, hr, _, hu'⟩ := tnsC_split l j _ (List.getElem?_eq_getElem hj)
  match r, hr, hu' with
  | 0, _, h => rw [← Option.some.inj h]; rfl
  | 1, _, h => rw [← Option.some.inj h]; rfl
  | 2, _, h => rw [← Option.some.inj h]; rfl
theorem RdT.cells {w : World} {b off : Nat} {L : List TN} (h : RdT w b off L) : Cells w b off (tnsC L) := by
  intro j u hj
  obtain ⟨i, n, r, rfl, hr, hn, hu⟩ := tnsC_split L j u hj
  obtain ⟨a0, a1, a2⟩ := h.2 i n hn
  match r, hr, hu with
  | 0, _, h => rw [← Option.some.inj h]; exact a0
  | 1, _, h => rw [← Option.some.inj h]; exact a1
  | 2, _, h => rw [← Option.some.inj h]; exact a2
theorem RdT.of_cells {w : World} {b off : Nat} {L : List TN} (hb : b < w.heap.size) (h : Cells w b off (tnsC L)) : RdT w b off L := by
  refine ⟨hb, fun i n hn => ?_⟩
  have hc : ∀ j, j < 3 → w.cell? ⟨b, off + i * 3 + j, none⟩ = (tnC n)[j]? := fun j hj => by
    have e := tnsC_at L i n j hn hj
    have hl : j < (tnC n).length := hj
    rw [List.getElem?_eq_getElem hl] at e ⊢
    have := h _ _ e
    rw [← Nat.add_assoc] at this
    exact this
  exact ⟨hc 0 (by omega), hc 1 (by omega), hc 2 (by omega)⟩
theorem RdT.sub {w : World} {b off : Nat} {L : List TN} (h : RdT w b off L) (k m : Nat) : RdT w b (off + k * 3) ((L.drop k).take m) := by
  refine ⟨h.1, fun i n hn => ?_⟩
  have e : L[k + i]? = some n := by
    rw [List.getElem?_take] at hn
    split at hn
    · rw [List.getElem?_drop] at hn; exact hn
    · cases hn
  have := h.2 (k + i) n e
  rw [show off + (k + i) * 3 = off + k * 3 + i * 3 by omega] at this
  exact this
end Shw
end Go.Proofs.YthamcklkmchkiaaDoor
