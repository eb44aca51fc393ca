/-
  DERIVED. THE STATEMENT GlyphMore, WALKED: by intervals of the byte, and by what the text is. The cases are printed by program (wip/gen_more.py).
-/
import Derived.Test.YtjjkbfjahljeeaaDoorGlLaws3
import Derived.BigGuard
import Derived.BigCall
namespace Go.Proofs.YtjjkbfjahljeeaaDoor
open Go.RowKit
namespace Glw
open Gl


/-- 'string([]byte{z})'. -/
theorem conv_one' (w : World) (z : Int) (b : UInt8) (h : z = b.toNat) :
    (convert 32 9 (.slice (some ⟨w.heap.size, 0, none⟩) 1 1)).run Tryd.prog (w.alloc (.cells #[.int .u8 z] 5)) = .ok (.string ⟨#[b]⟩) (w.alloc (.cells #[.int .u8 z] 5)) := by
  subst h
  have := run_convert_bytes_back (P := Tryd.prog) (w.alloc (.cells #[.int .u8 b.toNat] 5)) 32 9 5 ⟨w.heap.size, 0, none⟩ 1 [b] Tryd.underlying32 Tryd.underlying5 Tryd.underlying9 (fun j hj => by
    have : j = 0 := by simp at hj; omega
    subst this
    simp [Addr.add])
  exact this

theorem word_more (l : List UInt8) (b : UInt8) (h : l ≠ []) : wordL (l ++ [b]) = (wordL l && behindB b) ∧ tagL (l ++ [b]) = (tagL l && behindB b) := by
  cases l with
  | nil => exact absurd rfl h
  | cons c r =>
    constructor
    · show (smallB c && (r ++ [b]).all behindB) = (smallB c && r.all behindB && behindB b)
      rw [List.all_append, Bool.and_assoc]; simp
    · show (greatB c && (r ++ [b]).all behindB) = (greatB c && r.all behindB && behindB b)
      rw [List.all_append, Bool.and_assoc]; simp
theorem word_tag (l : List UInt8) : (wordL l && tagL l) = false := by
  cases l with
  | nil => rfl
  | cons c r =>
    show ((smallB c && r.all behindB) && (greatB c && r.all behindB)) = false
    by_cases h : smallB c = true
    · have : greatB c = false := by
        unfold smallB at h; unfold greatB
        rw [inB_iff] at h
        rw [← Bool.not_eq_true, inB_iff]; omega
      rw [this]; simp
    · rw [Bool.not_eq_true] at h; rw [h]; simp

theorem IsWord_is (s : ByteArray) (v : Bool) (h : wordL s.data.toList = v) (w : World) :
    Calls Tryd.prog 12 #[.string s] w fun e w' => e = .returned (.bool v) ∧ Below w.heap.size w w' := by
  rw [← h]; exact IsWord s w
theorem IsTag_is (s : ByteArray) (v : Bool) (h : tagL s.data.toList = v) (w : World) :
    Calls Tryd.prog 14 #[.string s] w fun e w' => e = .returned (.bool v) ∧ Below w.heap.size w w' := by
  rw [← h]; exact IsTag s w
end Glw
end Go.Proofs.YtjjkbfjahljeeaaDoor
