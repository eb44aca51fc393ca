/-
  DERIVED. AN ARGUMENT THAT IS A SLICE OF TOKENS, OPENED: its cells as a list of tokens (by the guide's words for slices of structs).
-/
import Derived.Test.YtelejpajnemmfaaDoorLxT4
import Derived.Deep.Slices
import Derived.Deep.Fields
import Derived.ChangeSame
namespace Go.Proofs.YtelejpajnemmfaaDoor
open Go.RowKit Go.ChangeShapes Go.WideShapes Go.Deep
section
variable {H : Type} {enc : TypeId × Value → H} {P : Program} {w : World} {base : Nat} {spare : Nat → Bool} {held : Bool}
theorem open_slice_fields {t e : TypeId} {fs : Array Field} {fuel : Nat} {cs : List Value} {x : DataW H × List MemPlace} (ht : P.underlying t = some (.slice e)) (he : P.underlying e = some (.struct fs))
    (hone : oneCellFields P fs = true) (hC : P.cellsOf e = fs.size) (h : DataW.trod enc P w base spare held fuel t cs = some x) :
    (cs = [.slice none 0 0] ∧ x = (.nil, [])) ∨
    ∃ (a : Addr) (len cap m : Nat) (D : Nat → DataW H) (Pl : Nat → List MemPlace), cs = [.slice (some a) len cap] ∧ base ≤ a.block ∧ len ≤ cap ∧ cap ≤ maxLen ∧ m = (if spare a.block then cap else len) ∧
      x = (.slice ((List.range len).map D) ((List.range (m - len)).map fun j => D (len + j)), MemPlace.row a (m * fs.size) ++ (List.range m).flatMap Pl) ∧
      ∀ i, i < m → ∃ (ys : List (DataW H × List MemPlace)) (n : Nat), D i = .agg (ys.map (·.1)) ∧ Pl i = ys.flatMap (·.2) ∧ ys.length = fs.size ∧
        ∀ (j : Nat) (f : Field), fs[j]? = some f → ∃ (v : Value) (y : DataW H × List MemPlace), w.cell? (a.add (i * fs.size + j)) = some v ∧ ys[j]? = some y ∧ DataW.trod enc P w base spare held n f.type [v] = some y := by
  rcases open_slice ht h with h0 | ⟨a, len, cap, m, n, D, Pl, hcs, hb, hl, hm, hmm, hx, hi⟩
  · exact .inl h0
  · refine .inr ⟨a, len, cap, m, D, Pl, hcs, hb, hl, hm, hmm, by rw [hC] at hx; exact hx, fun i him => ?_⟩
    obtain ⟨cs', hc, ht'⟩ := hi i him
    rw [hC] at hc
    obtain ⟨ys, n', hn', hy, hlen, hyl, hf⟩ := DataW.trod_struct he ht'
    obtain ⟨_, hcl, hat⟩ := World.cells?_some hc
    simp only [Prod.mk.injEq] at hy
    refine ⟨ys, n', hy.1, hy.2, hyl, fun j f hj => ?_⟩
    obtain ⟨ho, hk⟩ := hone_of hone j f hj
    have hjl : j < fs.size := (Array.getElem?_eq_some_iff.1 hj).1
    have hcell := hat j hjl
    have hv : cs'[j]? = some (cs'[j]'(by omega)) := List.getElem?_eq_getElem (by omega)
    have h1 := hf j f hj
    rw [ho, hk] at h1
    have hone' : (cs'.drop j).take 1 = [cs'[j]'(by omega)] := by
      rw [List.drop_eq_getElem_cons (by omega)]
      rfl
    rw [hone'] at h1
    have hys : ys[j]? = some (ys[j]'(by omega)) := List.getElem?_eq_getElem (by omega)
    refine ⟨_, _, ?_, hys, h1.trans hys⟩
    rw [← Go.Deep.add_add, hcell, hv]

theorem add_flat (b off n : Nat) : (⟨b, off, none⟩ : Addr).add n = ⟨b, off + n, none⟩ := by unfold Addr.add; split <;> simp_all

/-- A slice of tokens that came in: nil, or empty, or a row of cells. -/
theorem open_toks {fuel : Nat} {cs : List Value} {x : DataW H × List MemPlace} (h : DataW.trod enc Tryd.prog w base spare held fuel 23 cs = some x) :
    (∃ A c, cs = [.slice A 0 c]) ∨ ∃ b off cap, ∃ l : List Lxw.T4, cs = [.slice (some ⟨b, off, none⟩) l.length cap] ∧ 0 < l.length ∧ Lxw.Rd4 w b off l := by
  rcases open_slice_fields Tryd.underlying23 Tryd.underlying31 (by kernel_rfl) (by kernel_rfl) h with ⟨rfl, _⟩ | ⟨a, len, cap, m, D, Pl, rfl, _, hlc, hcm, hm, _, hi⟩
  · exact .inl ⟨none, 0, rfl⟩
  · by_cases h0 : len = 0
    · subst h0; exact .inl ⟨some a, cap, rfl⟩
    · have hlm : len ≤ m := by rw [hm]; split <;> omega
      have each : ∀ i, ∃ t : Lxw.T4, i < len → w.cell? (a.add (i * 4)) = some (.int .i64 t.k) ∧ w.cell? (a.add (i * 4 + 1)) = some (.string t.x) ∧ w.cell? (a.add (i * 4 + 2)) = some (.int .i64 t.lo) ∧ w.cell? (a.add (i * 4 + 3)) = some (.int .i64 t.hi) := by
        intro i
        by_cases hil : i < len
        · obtain ⟨ys, n, _, _, _, hf⟩ := hi i (by omega)
          obtain ⟨v0, y0, c0, _, t0⟩ := hf 0 _ rfl
          obtain ⟨v1, y1, c1, _, t1⟩ := hf 1 _ rfl
          obtain ⟨v2, y2, c2, _, t2⟩ := hf 2 _ rfl
          obtain ⟨v3, y3, c3, _, t3⟩ := hf 3 _ rfl
          obtain ⟨n0, e0, _, _⟩ := DataW.trod_int Tryd.underlying3 t0
          obtain ⟨s1, e1, _, _⟩ := DataW.trod_string Tryd.underlying9 t1
          obtain ⟨n2, e2, _, _⟩ := DataW.trod_int Tryd.underlying3 t2
          obtain ⟨n3, e3, _, _⟩ := DataW.trod_int Tryd.underlying3 t3
          injection e0 with e0
          injection e1 with e1
          injection e2 with e2
          injection e3 with e3
          subst e0 e1 e2 e3
          exact ⟨⟨n0, s1, n2, n3⟩, fun _ => ⟨c0, c1, c2, c3⟩⟩
        · exact ⟨⟨0, ⟨#[]⟩, 0, 0⟩, fun h => absurd h hil⟩
      have hspot : a.spot = none := by
        obtain ⟨t, ht⟩ := each 0
        have hc := (ht (by omega)).1
        have : a.add (0 * 4) = a := rfl
        rw [this] at hc
        unfold World.cell? at hc
        cases hs : a.spot with
        | none => rfl
        | some z => rw [hs] at hc; simp at hc; split at hc <;> simp at hc
      obtain ⟨b, off, sp⟩ := a
      simp only at hspot
      subst hspot
      refine .inr ⟨b, off, cap, (List.range len).map fun i => Classical.choose (each i), by simp, by simp; omega, ?_, ?_⟩
      · obtain ⟨t, ht⟩ := each 0
        have hc := (ht (by omega)).1
        have : (⟨b, off, none⟩ : Addr).add (0 * 4) = ⟨b, off, none⟩ := rfl
        rw [this] at hc
        exact Lxw.lt_of_cell hc
      · intro i t ht
        rw [List.getElem?_map] at ht
        by_cases hil : i < len
        · rw [List.getElem?_range hil] at ht
          simp only [Option.map_some, Option.some.injEq] at ht
          have := Classical.choose_spec (each i) hil
          rw [ht] at this
          rw [add_flat, add_flat, add_flat, add_flat] at this
          exact this
        · rw [List.getElem?_eq_none (by simp; omega)] at ht
          simp at ht
end
end Go.Proofs.YtelejpajnemmfaaDoor
