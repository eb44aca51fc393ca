/-
  DERIVED. ARGUMENTS THAT ARE OUTCOMES AND ENTRIES, OPENED (layer 21).
-/
import Derived.Test.YthamcklkmchkiaaDoorShOpen
import Derived.Test.YthamcklkmchkiaaDoorShEntW
import Derived.Deep.Strs
namespace Go.Proofs.YthamcklkmchkiaaDoor
open Go.RowKit Go.ChangeShapes Go.WideShapes Go.Deep
namespace Shw
open Gl Glw Sh
/-- A choice as it lies. -/
structure RC where
  s : Int
  A : Option Addr
  m : Nat
  c : Nat
def RdRC (w : World) (b off : Nat) (rs : List RC) : Prop := b < w.heap.size ∧ ∀ i r, rs[i]? = some r → w.cell? ⟨b, off + i * 2, none⟩ = some (.int .i64 r.s) ∧ w.cell? ⟨b, off + i * 2 + 1, none⟩ = some (.slice r.A r.m r.c)
structure EIn (w : World) (b off cap : Nat) (rs : List RC) : Prop where
  ne : 0 < rs.length
  le : rs.length ≤ cap
  most : rs.length ≤ maxLen
  rd : RdRC w b off rs
  ty : ∀ r ∈ rs, TyIn0 w r.A r.m r.c
  num : ∀ r ∈ rs, -9223372036854775808 ≤ r.s ∧ r.s ≤ 9223372036854775807
  tl : ∀ r ∈ rs, r.m ≤ maxLen
theorem RdRC.since {w w' : World} {b off : Nat} {rs : List RC} (h : RdRC w b off rs) (hb : Below w.heap.size w w') : RdRC w' b off rs :=
  ⟨Nat.lt_of_lt_of_le h.1 hb.size, fun i r hi => ⟨(hb.cell (p := ⟨b, off + i * 2, none⟩) h.1).trans (h.2 i r hi).1, (hb.cell (p := ⟨b, off + i * 2 + 1, none⟩) h.1).trans (h.2 i r hi).2⟩⟩
theorem EIn.since {w w' : World} {b off cap : Nat} {rs : List RC} (h : EIn w b off cap rs) (hb : Below w.heap.size w w') : EIn w' b off cap rs :=
  { ne := h.ne, le := h.le, most := h.most, rd := h.rd.since hb, ty := fun r hr => (h.ty r hr).since hb, num := h.num, tl := h.tl }
/-- An entry as an argument. -/
def EntArg (w : World) (v : Go.Value) : Prop := ∃ V A c, ∃ rs : List RC, ∃ b off, v = .agg #[V, .slice A rs.length c] ∧ (0 < rs.length → A = some ⟨b, off, none⟩ ∧ EIn w b off c rs)
/-- An outcome as an argument. -/
def OutArg (v : Go.Value) : Prop := ∃ k A m c n, v = .agg #[.int .i64 k, .slice A m c, .int .i64 n] ∧ -9223372036854775808 ≤ n ∧ n ≤ 9223372036854775807
section
variable {H : Type} {enc : TypeId × Go.Value → H} {P : Program} {w : World} {base : Nat} {spare : Nat → Bool} {held : Bool}
theorem ty_len {fuel : Nat} {A : Option Addr} {m c : Nat} {x : DataW H × List MemPlace} (h : DataW.trod enc Tryd.prog w base spare held fuel 36 [.slice A m c] = some x) : m ≤ maxLen := by
  rcases open_slice_fields Tryd.underlying36 Tryd.underlying66 (by kernel_rfl) (by kernel_rfl) h with h0 | ⟨a, len, cap, m', hcs, hlc, hcm, -, -⟩
  · injection h0 with h0
    injection h0 with _ h0 _
    omega
  · injection hcs with hcs
    injection hcs with _ h0 _
    omega
theorem open_choices {fuel : Nat} {cs : List Go.Value} {x : DataW H × List MemPlace} (h : DataW.trod enc Tryd.prog w base spare held fuel 44 cs = some x) :
    (∃ A c, cs = [.slice A 0 c]) ∨ ∃ b off cap, ∃ rs : List RC, cs = [.slice (some ⟨b, off, none⟩) rs.length cap] ∧ EIn w b off cap rs := by
  rcases open_slice_fields Tryd.underlying44 Tryd.underlying49 (by kernel_rfl) (by kernel_rfl) h with h0 | ⟨a, len, cap, m, rfl, hlc, hcm, hlm, hi⟩
  · exact .inl ⟨none, 0, h0⟩
  · by_cases h0 : len = 0
    · subst h0; exact .inl ⟨some a, cap, rfl⟩
    · have each : ∀ i, ∃ r : RC, i < len → (w.cell? (a.add (i * 2)) = some (.int .i64 r.s) ∧ w.cell? (a.add (i * 2 + 1)) = some (.slice r.A r.m r.c)) ∧ TyIn0 w r.A r.m r.c ∧ (-9223372036854775808 ≤ r.s ∧ r.s ≤ 9223372036854775807) ∧ r.m ≤ maxLen := by
        intro i
        by_cases hil : i < len
        · obtain ⟨n, hf⟩ := hi i (by omega)
          obtain ⟨v0, y0, c0, t0⟩ := hf 0 _ rfl
          obtain ⟨v1, y1, c1, t1⟩ := hf 1 _ rfl
          obtain ⟨n0, e0, _, hw0⟩ := DataW.trod_int Tryd.underlying3 t0
          obtain ⟨tA, tn, tc, e1, h1⟩ := open_ty t1
          injection e0 with e0
          subst e0 e1
          have h2 := ty_len t1
          have hb : -9223372036854775808 ≤ n0 ∧ n0 ≤ 9223372036854775807 := by simpa [Lit.wf, IntKind.min, IntKind.max, IntKind.signed, IntKind.bits] using hw0
          exact ⟨⟨n0, tA, tn, tc⟩, fun _ => ⟨⟨c0, c1⟩, h1, hb, h2⟩⟩
        · exact ⟨⟨0, none, 0, 0⟩, fun h => absurd h hil⟩
      have hspot : a.spot = none := by
        obtain ⟨t, ht⟩ := each 0
        have hc := (ht (by omega)).1.1
        rw [Nat.zero_mul] at hc
        exact no_spot hc
      obtain ⟨b, off, sp⟩ := a
      simp only at hspot
      subst hspot
      have hmem : ∀ r ∈ (List.range len).map fun i => Classical.choose (each i), ∃ i, i < len ∧ Classical.choose (each i) = r := fun r hr => by
        obtain ⟨i, hi', rfl⟩ := List.mem_map.1 hr
        exact ⟨i, by simpa using hi', rfl⟩
      refine .inr ⟨b, off, cap, (List.range len).map fun i => Classical.choose (each i), by simp, ?_⟩
      refine { ne := by simp; omega, le := by simp; exact hlc, most := by simp; omega, rd := ⟨?_, ?_⟩, ty := ?_, num := ?_, tl := ?_ }
      · obtain ⟨t, ht⟩ := each 0
        have hc := (ht (by omega)).1.1
        rw [Nat.zero_mul] at hc
        exact lt_of_cell hc
      · intro i t ht
        rw [List.getElem?_map] at ht
        by_cases hil : i < len
        · rw [List.getElem?_range hil] at ht
          simp only [Option.map_some, Option.some.injEq] at ht
          have := (Classical.choose_spec (each i) hil).1
          rw [ht, flat_add, flat_add] at this
          exact this
        · rw [List.getElem?_eq_none (by simp; omega)] at ht
          simp at ht
      · intro n hn
        obtain ⟨i, hil, rfl⟩ := hmem n hn
        exact (Classical.choose_spec (each i) hil).2.1
      · intro n hn
        obtain ⟨i, hil, rfl⟩ := hmem n hn
        exact (Classical.choose_spec (each i) hil).2.2.1
      · intro n hn
        obtain ⟨i, hil, rfl⟩ := hmem n hn
        exact (Classical.choose_spec (each i) hil).2.2.2
theorem entArg_of {fuel : Nat} {cs : Array Go.Value} {x : DataW H × List MemPlace} (h : DataW.trod enc Tryd.prog w base spare held fuel 46 (Go.Value.agg cs).cells.toList = some x) : EntArg w (.agg cs) := by
  obtain ⟨y0, y1, n, -, hl, h0, h1⟩ := trod_struct2 Tryd.underlying46 h
  rw [show Tryd.prog.cellsOf 46 = 2 by kernel_rfl] at hl
  obtain ⟨c0, c1, hcs⟩ : ∃ c0 c1, cs = #[c0, c1] := by
    obtain ⟨l⟩ := cs
    have hl' : l.length = 2 := hl
    clear h0 h1 h hl
    rcases l with _ | ⟨a, _ | ⟨b, _ | ⟨c, l⟩⟩⟩
    · simp at hl'
    · simp at hl'
    · exact ⟨a, b, rfl⟩
    · simp at hl'
  subst hcs
  dsimp only at h1
  rw [show Tryd.prog.cellsOf 44 = 1 by kernel_rfl] at h1
  have h1' : DataW.trod enc Tryd.prog w base spare held n 44 [c1] = some y1 := h1
  rcases open_choices h1' with ⟨A, c, hc⟩ | ⟨b, off, cap, rs, hc, hE⟩
  · injection hc with hc
    exact ⟨c0, A, c, [], 0, 0, by rw [hc]; rfl, fun h => by simp at h⟩
  · injection hc with hc
    exact ⟨c0, some ⟨b, off, none⟩, cap, rs, b, off, by rw [hc], fun _ => ⟨rfl, hE⟩⟩
theorem outArg_of {fuel : Nat} {cs : Array Go.Value} {x : DataW H × List MemPlace} (h : DataW.trod enc Tryd.prog w base spare held fuel 41 (Go.Value.agg cs).cells.toList = some x) : OutArg (.agg cs) := by
  obtain ⟨y0, y1, y2, n, -, hl, h0, h1, h2⟩ := trod_struct3 Tryd.underlying41 h
  rw [show Tryd.prog.cellsOf 41 = 3 by kernel_rfl] at hl
  obtain ⟨c0, c1, c2, hcs⟩ : ∃ c0 c1 c2, cs = #[c0, c1, c2] := by
    obtain ⟨l⟩ := cs
    have hl' : l.length = 3 := hl
    clear h0 h1 h2 h hl
    rcases l with _ | ⟨a, _ | ⟨b, _ | ⟨c, _ | ⟨d, l⟩⟩⟩⟩
    · simp at hl'
    · simp at hl'
    · simp at hl'
    · exact ⟨a, b, c, rfl⟩
    · simp at hl'
  subst hcs
  dsimp only at h0 h1 h2
  rw [show Tryd.prog.cellsOf 3 = 1 by kernel_rfl] at h0
  rw [show Tryd.prog.cellsOf 29 = 1 by kernel_rfl] at h1
  rw [show Tryd.prog.cellsOf 2 = 1 by kernel_rfl] at h2
  have h0' : DataW.trod enc Tryd.prog w base spare held n 3 [c0] = some y0 := h0
  have h1' : DataW.trod enc Tryd.prog w base spare held n 29 [c1] = some y1 := h1
  have h2' : DataW.trod enc Tryd.prog w base spare held n 2 [c2] = some y2 := h2
  obtain ⟨k, e0, _, _⟩ := DataW.trod_int Tryd.underlying3 h0'
  obtain ⟨m, e2, _, hw2⟩ := DataW.trod_int Tryd.underlying2 h2'
  injection e0 with e0
  injection e2 with e2
  have hb : -9223372036854775808 ≤ m ∧ m ≤ 9223372036854775807 := by simpa [Lit.wf, IntKind.min, IntKind.max, IntKind.signed, IntKind.bits] using hw2
  rcases open_val h1' with ⟨A, c, hc⟩ | ⟨b, off, cap, L, hc, _⟩
  · injection hc with hc
    exact ⟨k, A, 0, c, m, by rw [e0, e2, hc], hb⟩
  · injection hc with hc
    exact ⟨k, some ⟨b, off, none⟩, L.length, cap, m, by rw [e0, e2, hc], hb⟩
end
/-- The choices whose types are plain. -/
def PlainRC (w : World) (r : RC) : Prop := ∃ b off, ∃ t : TT, r.A = some ⟨b, off, none⟩ ∧ r.m = (flatTT t).length ∧ okTT t ∧ (flatTT t).length ≤ 30 ∧ NamesOk (flatTT t) ∧ RdT w b off (flatTT t)
theorem choices_of {w : World} : ∀ (rs : List RC), (∀ r ∈ rs, PlainRC w r) → (∀ r ∈ rs, -9223372036854775808 ≤ r.s ∧ r.s ≤ 9223372036854775807) →
    ∃ cs : List CH, cs.map (fun c => RC.mk c.s (some ⟨c.b, c.off, none⟩) (flatTT c.t).length c.cap) = rs ∧ (∀ c ∈ cs, ChOk c) ∧ ∀ c ∈ cs, RdT w c.b c.off (flatTT c.t)
  | [], _, _ => ⟨[], rfl, fun c h => by simp at h, fun c h => by simp at h⟩
  | r :: rs, h, hn => by
    obtain ⟨cs, h1, h2, h3⟩ := choices_of rs (fun x hx => h x (by simp [hx])) (fun x hx => hn x (by simp [hx]))
    obtain ⟨b, off, t, hA, hm, hok, hl, hN, hR⟩ := h r (by simp)
    have hb := hn r (by simp)
    refine ⟨⟨r.s, b, off, r.c, t⟩ :: cs, ?_, ?_, ?_⟩
    · rw [List.map_cons, h1]
      obtain ⟨s, A, m, c⟩ := r
      simp only at hA hm
      subst hA hm
      rfl
    · intro c hc
      rcases List.mem_cons.1 hc with rfl | hc
      · exact ⟨hok, hl, hN, hb.1, hb.2⟩
      · exact h2 c hc
    · intro c hc
      rcases List.mem_cons.1 hc with rfl | hc
      · exact hR
      · exact h3 c hc
theorem rdC_of {w : World} {b off : Nat} {rs : List RC} {cs : List CH} (h : RdRC w b off rs) (hm : cs.map (fun c => RC.mk c.s (some ⟨c.b, c.off, none⟩) (flatTT c.t).length c.cap) = rs) (hR : ∀ c ∈ cs, RdT w c.b c.off (flatTT c.t)) : RdC w b off cs := by
  refine ⟨h.1, fun i c hi => ?_⟩
  have hr := h.2 i _ (by rw [← hm, List.getElem?_map, hi]; rfl)
  exact ⟨hr.1, hr.2, hR c (List.mem_of_getElem? hi)⟩
end Shw
end Go.Proofs.YthamcklkmchkiaaDoor
