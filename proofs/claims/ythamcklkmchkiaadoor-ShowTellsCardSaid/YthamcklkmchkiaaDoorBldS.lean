/-
  DERIVED. strings.Builder AS THE EMBEDDED FIELD of ty's printer: String (after the shelf's proof of the form '_k'); and ty's table of words.
-/
import Derived.Test.YthamcklkmchkiaaDoorBldP
import Derived.Test.YthamcklkmchkiaaDoorGlQuote
import Derived.Test.YthamcklkmchkiaaDoorShPrint
import Derived.Deep.WholeRow
namespace Go.Proofs.YthamcklkmchkiaaDoor
open Go.RowKit
namespace Bldp

set_option maxHeartbeats 1000000 in
set_option maxRecDepth 100000 in
theorem String (B b : Nat) (l : List UInt8) (w : World) (h : Is B b (Lib.byteCells l) w) (h0 : l ≠ []) :
    Calls Tryd.prog 44 #[.pointer (some ⟨b, 0, none⟩)] w fun e w' => e = .returned (.string ⟨l.toArray⟩) ∧ Below B w w' := by
  obtain ⟨p, hAt⟩ : ∃ p, Lib.BuilderAtF 94 5 B b p (Lib.byteCells l) w := by
    rcases h with h | h
    · exact ⟨_, h⟩
    · exact ⟨_, h⟩
  obtain ⟨hB, v, hbk, hown, hne⟩ := hAt
  have hl0 : l.length ≠ 0 := by simpa using h0
  rw [Lib.byteCells_length] at hown
  obtain ⟨g, cap, cur, fz, rfl, hbg, hg, hfz, hnc, hcm, hcs, htake⟩ : ∃ g cap cur fz, v = .slice (some ⟨g, 0, none⟩) l.length cap ∧ B ≤ g ∧ w.heap[g]? = some (.cells cur 5 fz) ∧ fz.2 ≤ l.length * 1 ∧ l.length ≤ cap ∧ cap ≤ maxLen ∧ cur.size = cap * 1 ∧ cur.toList.take (l.length * 1) = Lib.byteCells l := by
    rcases hown.2 with ⟨_, hz⟩ | ⟨g, cap, cur, fz, hv, r⟩
    · exact absurd hz hl0
    · exact ⟨g, cap, cur, fz, hv, r⟩
  have c1 : w.drew.cell? ⟨b, 1, none⟩ = some (.slice (some ⟨g, 0, none⟩) l.length cap) := by
    have : w.drew.heap[b]? = some (.cells #[p, .slice (some ⟨g, 0, none⟩) l.length cap] 94 (0, 0)) := hbk
    rw [Lib.cell_of_heap this]; rfl
  have hSD : (Builtin.unsafeSliceData_ #[74] 100 #[.slice (some ⟨g, 0, none⟩) l.length cap]).run Tryd.prog w.drew = .ok (.pointer (some ⟨g, 0, none⟩)) w.drew :=
    Lib.run_unsafeSliceData_row _ _ _ _ _ _ (by omega)
  have hUS : (Builtin.unsafeString_ #[100, 3] 9 #[.pointer (some ⟨g, 0, none⟩), .int .i64 l.length]).run Tryd.prog w.drew = .ok (.string ⟨l.toArray⟩) (w.drew.freeze ⟨g, 0, none⟩ l.length) := by
    refine Lib.run_unsafeString_row w.drew 100 3 9 5 Tryd.underlying100 (by kernel_rfl) g cur.size (by have hg' : w.drew.heap[g]? = some (.cells cur 5 fz) := hg; simp [World.shape?, hg']) l h0 (by omega) (by unfold maxLen at hcm; omega) ?_
    intro j x hx
    have := hown.cells (g := g) rfl j (.int .u8 x.toNat) (by simp [Lib.byteCells, hx])
    exact this
  have mixed : Tryd.prog.follows Departure.mixedOrders = true := by kernel_rfl
  go_enter Tryd.func44, Tryd.ntmps44
  go_wp2
  go_region_o
  all_goals (go_wp2; go_ret; exact ⟨rfl, Lib.below_freeze (Below.drew (Below.refl B w)) (p := ⟨g, 0, none⟩) hbg _⟩)
end Bldp
namespace Shw
open Gl Glw Sh
theorem IsP_below {B b : Nat} {bs : List Go.Value} {W W' : World} (h : Bldp.Is B b bs W) (hb : Below W.heap.size W W') : Bldp.Is B b bs W' :=
  h.elim (fun x => .inl (BuilderAtF_below x hb)) (fun x => .inr (BuilderAtF_below x hb))

theorem wpList_built {P : Program} {ops : Array Oper} {rest : List Oper} {o : Oper} {a : Act} {w : World} {Q : Exit → Act → World → Prop} (hg : o.guard = none) (t : TypeId) (parts : Array (Nat × Operand)) (ho : o.op = .build t parts)
    (cs : Array Go.Value) (hf : P.built t (parts.map fun (i, x) => (i, a.eval x)).toList = some cs) (h : wpList P ops Q rest (a.put o.dst (.agg cs)) w) : wpList P ops Q (o :: rest) a w := by
  refine wpList_build hg t parts ho (by rw [hf]; rfl) ?_
  rw [hf]
  exact h
def wordsA : Array Go.Value := #[.string ⟨#[63]⟩, .string ⟨#[105, 110, 116]⟩, .string ⟨#[98, 111, 111, 108]⟩, .string ⟨#[115, 116, 114, 105, 110, 103]⟩, .string ⟨#[117, 110, 105, 116]⟩]
set_option maxHeartbeats 1000000 in
set_option maxRecDepth 1000000 in
theorem tyWords (w : World) : Calls Tryd.prog 79 #[] w fun e w' => e = .returned (.agg wordsA) ∧ Below w.heap.size w w' := by
  have hsz : wordsA.size = 5 := rfl
  have h1 : wordsA.all (·.oneCell') = true := by kernel_rfl
  have hinfo : (Tryd.prog.info? 112).map (·.size) = some wordsA.size := by rw [hsz]; kernel_rfl
  obtain ⟨c, hc⟩ : ∃ c, wordsA = c := ⟨_, rfl⟩
  rw [hc] at hsz h1 hinfo ⊢
  have HC := Lib.hid hc
  clear hc
  go_enter Tryd.func79, Tryd.ntmps79
  iterate 11 (first | go_values | go_skip | go_guarded | go_step | go_upon | go_back)
  refine wpList_built rfl 112 _ rfl c (by rw [← HC.out]; kernel_rfl) ?_
  refine wpList_store_row rfl 112 (.tmp 0) (.tmp 1) rfl w.heap.size c rfl rfl 112 _ (heap_alloc_new w _) hinfo (by rw [hsz]; rfl) h1 ?_
  rw [World.setRow_alloc_new]
  repeat (first | go_values | go_skip | go_guarded | go_step | go_upon | go_back)
  refine bodyPost_ret (v := .agg c) ?_ rfl ⟨rfl, (Below.refl _ _).alloc (Nat.le_refl _) _⟩
  exact results_cell_row rfl _ _ w.heap.size 112 c (0, 0) _ rfl (heap_alloc_last w _) Tryd.underlying112 rfl hinfo
end Shw
end Go.Proofs.YthamcklkmchkiaaDoor
