/-
  DERIVED. WHAT THE CARDS OF LAYER 21 WANT BESIDE: an array of two numbers opened and shut; a listed table, wherever it stands on the list.
-/
import Derived.Test.YthamcklkmchkiaaDoorShA
import Derived.Handed
import Derived.ProofKit
import Derived.WideKeyArr2
import Derived.Lib.LaidU8
namespace Go.Proofs.YthamcklkmchkiaaDoor
open Go.ChangeShapes Go.WideShapes Go.ChangeAt Go.RowKit
section
variable {H : Type} {enc : TypeId × Value → H} {P : Program} {w : World} {base : Nat} {spare : Nat → Bool} {held : Bool} {t e : TypeId} {k : IntKind}

theorem open_two {r : Reach} {b0 : Nat} {v : Value} {d : DataW H} {ps : List MemPlace} (A : Go.WideMaps.ArrKey P t e 2) (he : P.underlying e = some (.int k)) (hval : Value.okWide P w r b0 t v) (hd : DataW.Trod enc P w base spare held t v d ps) :
    ∃ a b, v = .agg #[.int k a, .int k b] ∧ d = .agg [.lit (.int k a), .lit (.int k b)] ∧ ps = [] ∧ (Lit.int k a).wf = true ∧ (Lit.int k b).wf = true := by
  obtain ⟨xs, rfl, hn⟩ := Go.WideMaps.okWide_arr A hval
  obtain ⟨fuel, hf⟩ := hd
  cases fuel with
  | zero => simp [DataW.trod] at hf
  | succ m =>
    rw [DataW.trod_step] at hf
    unfold DataW.trodStep at hf
    simp only [A.hu, Value.cells] at hf
    rw [if_pos (by rw [A.size]; simpa using hn)] at hf
    simp only [Option.map_eq_some_iff] at hf
    obtain ⟨ys, hy, e1⟩ := hf
    rw [A.one] at hy
    simp only [List.range_succ, List.range_zero, List.nil_append, List.cons_append, List.mapM_cons, List.mapM_nil, bind, Option.bind_eq_some_iff, pure, Option.some.injEq] at hy
    obtain ⟨y0, h0, ys1, ⟨y1, h1, ys2, rfl, rfl⟩, rfl⟩ := hy
    obtain ⟨a, ea, rfl, wa⟩ := DataW.trod_int he h0
    obtain ⟨b, eb, rfl, wb⟩ := DataW.trod_int he h1
    simp only [Prod.mk.injEq] at e1
    refine ⟨a, b, ?_, by rw [← e1.1]; rfl, by rw [← e1.2]; rfl, wa, wb⟩
    obtain ⟨l⟩ := xs
    match l, hn, ea, eb with
    | [p, q], _, ea, eb =>
      simp at ea eb
      rw [ea, eb]

theorem shut_two (A : Go.WideMaps.ArrKey P t e 2) (he : P.underlying e = some (.int k)) {a b : Int} (wa : (Lit.int k a).wf = true) (wb : (Lit.int k b).wf = true) :
    DataW.Trod enc P w base spare held t (.agg #[.int k a, .int k b]) (.agg [.lit (.int k a), .lit (.int k b)]) [] := by
  refine ⟨2, ?_⟩
  rw [DataW.trod_step]
  unfold DataW.trodStep
  simp only [A.hu, Value.cells]
  rw [if_pos (by rw [A.size]; rfl)]
  simp [A.one, List.range_succ, DataW.trod, he, wa, wb]
end

namespace Lib2
open Go.Lib
theorem tabIs_of_reads {P : Program} {W : World} {name : String} {k : IntKind} {zs : List Int} {g : Nat} {t e : TypeId} {n : Nat}
    (hg : P.globalNamed name = some g) (hty : (P.globals[g]?).map (·.type) = some t) (ht : P.underlying t = some (.array n e)) (he : P.underlying e = some (.int k)) (hce : P.cellsOf e = 1) (hct : P.cellsOf t = n)
    (h : VarReads P W name (tabData k zs)) : TabIs P W name k zs := by
  obtain ⟨g', t', cs, fuel, p, hg', ht', hvar, hd⟩ := h
  obtain rfl := Option.some.inj (hg.symm.trans hg')
  obtain rfl := Option.some.inj (hty.symm.trans ht')
  unfold TabIs
  rw [hvar, ← cells_of_tab ht he hce hct hd]
end Lib2
end Go.Proofs.YthamcklkmchkiaaDoor
