/-
  DERIVED. AN ARGUMENT THAT IS A VALUE (a slice of nodes, each with two types), OPENED: its cells as a list of nodes (by the guide's words for slices of structs).
-/
import Derived.Test.YthamcklkmchkiaaDoorShLaws4
import Derived.Deep.Slices
import Derived.Deep.Fields
import Derived.ChangeSame
namespace Go.Proofs.YthamcklkmchkiaaDoor
open Go.RowKit Go.ChangeShapes Go.WideShapes Go.Deep
namespace Shw
open Gl Glw Sh
section
variable {H : Type} {enc : TypeId × Go.Value → H} {P : Program} {w : World} {base : Nat} {spare : Nat → Bool} {held : Bool}
theorem open_slice_fields {t e : TypeId} {fs : Array Field} {fuel : Nat} {cs : List Go.Value} {x : DataW H × List MemPlace} (ht : P.underlying t = some (.slice e)) (he : P.underlying e = some (.struct fs))
    (hone : oneCellFields P fs = true) (hC : P.cellsOf e = fs.size) (h : DataW.trod enc P w base spare held fuel t cs = some x) :
    cs = [.slice none 0 0] ∨
    ∃ (a : Addr) (len cap m : Nat), cs = [.slice (some a) len cap] ∧ len ≤ cap ∧ cap ≤ maxLen ∧ len ≤ m ∧
      ∀ i, i < m → ∃ (n : Nat), ∀ (j : Nat) (f : Field), fs[j]? = some f → ∃ (v : Go.Value) (y : DataW H × List MemPlace), w.cell? (a.add (i * fs.size + j)) = some v ∧ DataW.trod enc P w base spare held n f.type [v] = some y := by
  rcases open_slice ht h with h0 | ⟨a, len, cap, m, n, D, Pl, hcs, hb, hl, hm, hmm, hx, hi⟩
  · exact .inl h0.1
  · refine .inr ⟨a, len, cap, m, hcs, hl, hm, by rw [hmm]; split <;> omega, fun i him => ?_⟩
    obtain ⟨cs', hc, ht'⟩ := hi i him
    rw [hC] at hc
    obtain ⟨ys, n', hn', hy, hlen, hyl, hf⟩ := DataW.trod_struct he ht'
    obtain ⟨_, hcl, hat⟩ := World.cells?_some hc
    refine ⟨n', fun j f hj => ?_⟩
    obtain ⟨ho, hk⟩ := hone_of hone j f hj
    have hjl : j < fs.size := (Array.getElem?_eq_some_iff.1 hj).1
    have hcell := hat j hjl
    have hv : cs'[j]? = some (cs'[j]'(by omega)) := List.getElem?_eq_getElem (by omega)
    have h1 := hf j f hj
    rw [ho, hk] at h1
    have hone' : (cs'.drop j).take 1 = [cs'[j]'(by omega)] := by
      rw [List.drop_eq_getElem_cons (by omega)]
      rfl
    rw [hone'] at h1
    have hys : ys[j]? = some (ys[j]'(by omega)) := List.getElem?_eq_getElem (by omega)
    refine ⟨_, _, ?_, h1.trans hys⟩
    rw [← Go.Deep.add_add, hcell, hv]
theorem flat_add (b off n : Nat) : (⟨b, off, none⟩ : Addr).add n = ⟨b, off + n, none⟩ := by unfold Addr.add; split <;> simp_all
theorem no_spot {a : Addr} {v : Go.Value} (hc : w.cell? (a.add 0) = some v) : a.spot = none := by
  have : a.add 0 = a := rfl
  rw [this] at hc
  unfold World.cell? at hc
  cases hs : a.spot with
  | none => rfl
  | some z => rw [hs] at hc; simp at hc; split at hc <;> simp at hc

/-- A type that came in. -/
theorem open_ty {fuel : Nat} {v : Go.Value} {x : DataW H × List MemPlace} (h : DataW.trod enc Tryd.prog w base spare held fuel 36 [v] = some x) : ∃ A m c, v = .slice A m c ∧ TyIn0 w A m c := by
  rcases open_slice_fields Tryd.underlying36 Tryd.underlying66 (by kernel_rfl) (by kernel_rfl) h with h0 | ⟨a, len, cap, m, hcs, hlc, hcm, hlm, hi⟩
  · injection h0 with h0
    exact ⟨none, 0, 0, h0, .inl rfl⟩
  · injection hcs with hcs
    by_cases h0 : len = 0
    · exact ⟨some a, len, cap, hcs, .inl h0⟩
    · have each : ∀ i, ∃ t : TN, i < len → (w.cell? (a.add (i * 3)) = some (.int .i64 t.k) ∧ w.cell? (a.add (i * 3 + 1)) = some (.string t.nm) ∧ w.cell? (a.add (i * 3 + 2)) = some (.int .i64 t.n)) ∧ t.nm.size ≤ maxLen := by
        intro i
        by_cases hil : i < len
        · obtain ⟨n, hf⟩ := hi i (by omega)
          obtain ⟨v0, y0, c0, t0⟩ := hf 0 _ rfl
          obtain ⟨v1, y1, c1, t1⟩ := hf 1 _ rfl
          obtain ⟨v2, y2, c2, t2⟩ := hf 2 _ rfl
          obtain ⟨n0, e0, _, _⟩ := DataW.trod_int Tryd.underlying3 t0
          obtain ⟨s1, e1, _, hs⟩ := DataW.trod_string Tryd.underlying9 t1
          obtain ⟨n2, e2, _, _⟩ := DataW.trod_int Tryd.underlying3 t2
          injection e0 with e0
          injection e1 with e1
          injection e2 with e2
          subst e0 e1 e2
          exact ⟨⟨n0, s1, n2⟩, fun _ => ⟨⟨c0, c1, c2⟩, hs⟩⟩
        · exact ⟨⟨0, ⟨#[]⟩, 0⟩, fun h => absurd h hil⟩
      have hspot : a.spot = none := by
        obtain ⟨t, ht⟩ := each 0
        have hc := (ht (by omega)).1.1
        rw [Nat.zero_mul] at hc
        exact no_spot hc
      obtain ⟨b, off, sp⟩ := a
      simp only at hspot
      subst hspot
      refine ⟨_, _, _, hcs, .inr ⟨b, off, (List.range len).map fun i => Classical.choose (each i), rfl, by simp, hlc, ⟨?_, ?_⟩, ?_⟩⟩
      · obtain ⟨t, ht⟩ := each 0
        have hc := (ht (by omega)).1.1
        rw [Nat.zero_mul] at hc
        exact lt_of_cell hc
      · intro i t ht
        rw [List.getElem?_map] at ht
        by_cases hil : i < len
        · rw [List.getElem?_range hil] at ht
          simp only [Option.map_some, Option.some.injEq] at ht
          have := (Classical.choose_spec (each i) hil).1
          rw [ht, flat_add, flat_add, flat_add] at this
          exact this
        · rw [List.getElem?_eq_none (by simp; omega)] at ht
          simp at ht
      · intro t ht
        obtain ⟨i, hi', rfl⟩ := List.mem_map.1 ht
        have hil : i < len := by simpa using hi'
        exact Nat.le_trans (Classical.choose_spec (each i) hil).2 (by decide)

/-- A value that came in. -/
theorem open_val {fuel : Nat} {cs : List Go.Value} {x : DataW H × List MemPlace} (h : DataW.trod enc Tryd.prog w base spare held fuel 29 cs = some x) :
    (∃ A c, cs = [.slice A 0 c]) ∨ ∃ b off cap, ∃ L : List VN, cs = [.slice (some ⟨b, off, none⟩) L.length cap] ∧ VIn w b off cap L := by
  rcases open_slice_fields Tryd.underlying29 Tryd.underlying38 (by kernel_rfl) (by kernel_rfl) h with h0 | ⟨a, len, cap, m, rfl, hlc, hcm, hlm, hi⟩
  · exact .inl ⟨none, 0, h0⟩
  · by_cases h0 : len = 0
    · subst h0; exact .inl ⟨some a, cap, rfl⟩
    · have each : ∀ i, ∃ n : VN, i < len → (w.cell? (a.add (i * 7)) = some (.int .i64 n.k) ∧ w.cell? (a.add (i * 7 + 1)) = some (.string n.lab) ∧ w.cell? (a.add (i * 7 + 2)) = some (.string n.nm) ∧ w.cell? (a.add (i * 7 + 3)) = some (.int .i64 n.num) ∧
          w.cell? (a.add (i * 7 + 4)) = some (.int .i64 n.many) ∧ w.cell? (a.add (i * 7 + 5)) = some (.slice n.tA n.tn n.tc) ∧ w.cell? (a.add (i * 7 + 6)) = some (.slice n.uA n.un n.uc)) ∧
          (TyIn0 w n.tA n.tn n.tc ∧ TyIn0 w n.uA n.un n.uc) ∧ Fit n ∧ (-9223372036854775808 ≤ n.num ∧ n.num ≤ 9223372036854775807) := by
        intro i
        by_cases hil : i < len
        · obtain ⟨n, hf⟩ := hi i (by omega)
          obtain ⟨v0, y0, c0, t0⟩ := hf 0 _ rfl
          obtain ⟨v1, y1, c1, t1⟩ := hf 1 _ rfl
          obtain ⟨v2, y2, c2, t2⟩ := hf 2 _ rfl
          obtain ⟨v3, y3, c3, t3⟩ := hf 3 _ rfl
          obtain ⟨v4, y4, c4, t4⟩ := hf 4 _ rfl
          obtain ⟨v5, y5, c5, t5⟩ := hf 5 _ rfl
          obtain ⟨v6, y6, c6, t6⟩ := hf 6 _ rfl
          obtain ⟨n0, e0, _, _⟩ := DataW.trod_int Tryd.underlying3 t0
          obtain ⟨s1, e1, _, hs1⟩ := DataW.trod_string Tryd.underlying9 t1
          obtain ⟨s2, e2, _, hs2⟩ := DataW.trod_string Tryd.underlying9 t2
          obtain ⟨n3, e3, _, hw3⟩ := DataW.trod_int Tryd.underlying2 t3
          obtain ⟨n4, e4, _, _⟩ := DataW.trod_int Tryd.underlying3 t4
          obtain ⟨tA, tn, tc, e5, h5⟩ := open_ty t5
          obtain ⟨uA, un, uc, e6, h6⟩ := open_ty t6
          injection e0 with e0
          injection e1 with e1
          injection e2 with e2
          injection e3 with e3
          injection e4 with e4
          subst e0 e1 e2 e3 e4 e5 e6
          have hb : -9223372036854775808 ≤ n3 ∧ n3 ≤ 9223372036854775807 := by simpa [Lit.wf, IntKind.min, IntKind.max, IntKind.signed, IntKind.bits] using hw3
          unfold maxLen at hs1 hs2
          exact ⟨⟨n0, s1, s2, n3, n4, tA, tn, tc, uA, un, uc⟩, fun _ => ⟨⟨c0, c1, c2, c3, c4, c5, c6⟩, ⟨h5, h6⟩, ⟨by show s2.size ≤ _; omega, by show s1.size ≤ _; omega⟩, hb⟩⟩
        · exact ⟨⟨0, ⟨#[]⟩, ⟨#[]⟩, 0, 0, none, 0, 0, none, 0, 0⟩, fun h => absurd h hil⟩
      have hspot : a.spot = none := by
        obtain ⟨t, ht⟩ := each 0
        have hc := (ht (by omega)).1.1
        rw [Nat.zero_mul] at hc
        exact no_spot hc
      obtain ⟨b, off, sp⟩ := a
      simp only at hspot
      subst hspot
      have hmem : ∀ n ∈ (List.range len).map fun i => Classical.choose (each i), ∃ i, i < len ∧ Classical.choose (each i) = n := fun n hn => by
        obtain ⟨i, hi', rfl⟩ := List.mem_map.1 hn
        exact ⟨i, by simpa using hi', rfl⟩
      refine .inr ⟨b, off, cap, (List.range len).map fun i => Classical.choose (each i), by simp, ?_⟩
      refine { ne := by simp; omega, le := by simp; exact hlc, most := by simp; omega, rd := ⟨?_, ?_⟩, ty := ?_, fit := ?_, num := ?_ }
      · obtain ⟨t, ht⟩ := each 0
        have hc := (ht (by omega)).1.1
        rw [Nat.zero_mul] at hc
        exact lt_of_cell hc
      · intro i t ht
        rw [List.getElem?_map] at ht
        by_cases hil : i < len
        · rw [List.getElem?_range hil] at ht
          simp only [Option.map_some, Option.some.injEq] at ht
          have := (Classical.choose_spec (each i) hil).1
          rw [ht, flat_add, flat_add, flat_add, flat_add, flat_add, flat_add, flat_add] at this
          exact this
        · rw [List.getElem?_eq_none (by simp; omega)] at ht
          simp at ht
      · intro n hn
        obtain ⟨i, hil, rfl⟩ := hmem n hn
        exact (Classical.choose_spec (each i) hil).2.1
      · intro n hn
        obtain ⟨i, hil, rfl⟩ := hmem n hn
        exact (Classical.choose_spec (each i) hil).2.2.1
      · intro n hn
        obtain ⟨i, hil, rfl⟩ := hmem n hn
        exact (Classical.choose_spec (each i) hil).2.2.2
/-- A value as an argument. -/
def ValArg (w : World) (v : Go.Value) : Prop := (∃ A c, v = .slice A 0 c) ∨ ∃ b off cap, ∃ L : List VN, v = .slice (some ⟨b, off, none⟩) L.length cap ∧ VIn w b off cap L
theorem valArg_of {fuel : Nat} {A : Option Addr} {len cap : Nat} {x : DataW H × List MemPlace} (h : DataW.trod enc Tryd.prog w base spare held fuel 29 (Go.Value.slice A len cap).cells.toList = some x) : ValArg w (.slice A len cap) := by
  rcases open_val h with ⟨A', c, hc⟩ | ⟨b, off, cap', L, hc, hV⟩
  · simp only [Value.cells, List.cons.injEq, and_true] at hc
    exact .inl ⟨A', c, hc⟩
  · simp only [Value.cells, List.cons.injEq, and_true] at hc
    exact .inr ⟨b, off, cap', L, hc, hV⟩
theorem law_rows_arg {v : Go.Value} (h : ValArg w v) (hE : Env w) : Calls Tryd.prog 6 #[v] w fun en w' => en = .returned (.bool true) ∧ Below w.heap.size w w' := by
  rcases h with ⟨A, c, rfl⟩ | ⟨b, off, cap, L, rfl, hV⟩
  · exact law_rows_none A c w hE
  · exact law_rows b off cap L w hV hE
end
end Shw
end Go.Proofs.YthamcklkmchkiaaDoor
