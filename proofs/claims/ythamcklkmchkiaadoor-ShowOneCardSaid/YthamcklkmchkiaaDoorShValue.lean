/-
  DERIVED. LAYER 21 (show): a value, an outcome, walked.
-/
import Derived.Test.YthamcklkmchkiaaDoorShNext
namespace Go.Proofs.YthamcklkmchkiaaDoor
open Go.RowKit
namespace Shw
open Gl Glw Sh

set_option maxHeartbeats 1000000 in
set_option maxRecDepth 100000 in
theorem Value (b off cap : Nat) (L : List VN) (f : Nat) (t : List UInt8) (m : Nat) (hF : showF f L = some (t, m)) (w : World) (hRV : RdV w b off L) (hE : Env w) (hok : ∀ n ∈ L, VOk n) (hL : L.length ≤ 100000) :
    Calls Tryd.prog 17 #[.slice (some ⟨b, off, none⟩) L.length cap] w fun e w' => e = .returned (.string ⟨t.toArray⟩) ∧ Below w.heap.size w w' := by
  have hB : Below w.heap.size w (w.alloc (.cells #[.slice (some ⟨b, off, none⟩) L.length cap, .int .i64 0] 62)) := (Below.refl _ _).alloc (Nat.le_refl _) _
  have hr : Rd (w.alloc (.cells #[.slice (some ⟨b, off, none⟩) L.length cap, .int .i64 0] 62)) w.heap.size b off L.length cap 0 := heap_alloc_new w _
  have hN := Lib.hid (next w b off cap L hRV hE hok hL w.heap.size (Nat.le_refl _) f 0 t m (by rw [List.drop_zero]; exact hF) _ hB hr)
  have HB := Lib.hid hB
  clear hB hr hF hRV hE hok
  go_enter Tryd.func17, Tryd.ntmps17
  go_wp2_with fail
  refine hN.out.mono ?_
  rintro e w3 ⟨rfl, _, a3⟩
  dsimp only
  go_wp2
  go_ret
  exact ⟨rfl, HB.out.trans (a3.below (Nat.le_refl _) HB.out.size)⟩

/-- An outcome as text, where what is done is shown so. -/
def outL (t : List UInt8) (k n : Int) : List UInt8 :=
  if k = 0 then t else if k = 1 then [98, 108, 97, 109, 101, 32] ++ Lib.itoa n else if k = 2 then [116, 114, 97, 112, 32] ++ Lib.itoa n else [115, 112, 101, 110, 116]

set_option maxHeartbeats 1000000 in
set_option maxRecDepth 100000 in
theorem OutcomeDone (b off cap : Nat) (n : Int) (L : List VN) (f : Nat) (t : List UInt8) (m : Nat) (hF : showF f L = some (t, m)) (w : World) (hRV : RdV w b off L) (hE : Env w) (hok : ∀ n ∈ L, VOk n) (hL : L.length ≤ 100000) :
    Calls Tryd.prog 19 #[.agg #[.int .i64 0, .slice (some ⟨b, off, none⟩) L.length cap, .int .i64 n]] w fun e w' => e = .returned (.string ⟨t.toArray⟩) ∧ Below w.heap.size w w' := by
  have hB : Below w.heap.size w (w.alloc (.cells #[.int .i64 0, .slice (some ⟨b, off, none⟩) L.length cap, .int .i64 n] 41)) := (Below.refl _ _).alloc (Nat.le_refl _) _
  have hN := Lib.hid (Value b off cap L f t m hF _ (hRV.since hRV.1 hB) (hE.below hB) hok hL)
  have HB := Lib.hid hB
  clear hB hF hRV hE hok
  go_enter Tryd.func19, Tryd.ntmps19
  go_wp2_with fail
  refine hN.out.mono ?_
  rintro e w3 ⟨rfl, b3⟩
  dsimp only
  go_wp2
  go_ret
  exact ⟨rfl, HB.out.trans (b3.mono HB.out.size)⟩

set_option maxHeartbeats 1000000 in
set_option maxRecDepth 100000 in
theorem OutcomeElse (V : Go.Value) (k n : Int) (hk : k ≠ 0) (h0 : -9223372036854775808 ≤ n) (h1 : n ≤ 9223372036854775807) (w : World) (hE : Env w) :
    Calls Tryd.prog 19 #[.agg #[.int .i64 k, V, .int .i64 n]] w fun e w' => e = .returned (.string ⟨(outL [] k n).toArray⟩) ∧ Below w.heap.size w w' := by
  have hB : Below w.heap.size w (w.alloc (.cells #[.int .i64 k, V, .int .i64 n] 41)) := (Below.refl _ _).alloc (Nat.le_refl _) _
  have hs : (w.alloc (.cells #[.int .i64 k, V, .int .i64 n] 41)).heap.size = w.heap.size + 1 := by simp
  have HS := Lib.hid hs
  have HE := Lib.hid (hE.below hB)
  have HB := Lib.hid hB
  have q0 : (k == 0) = false := by rw [beq_eq_false_iff_ne]; exact hk
  have HO : outL [] k n = if k = 1 then [98, 108, 97, 109, 101, 32] ++ Lib.itoa n else if k = 2 then [116, 114, 97, 112, 32] ++ Lib.itoa n else [115, 112, 101, 110, 116] := by unfold outL; rw [if_neg hk]
  rw [HO]
  have hlen := itoa_len n h0 h1
  clear hB hE hk HO hs
  by_cases h1k : k = 1
  · have q1 : (k == 1) = true := by rw [beq_iff_eq]; exact h1k
    have hj := joined_new [iS ⟨#[98, 108, 97, 109, 101, 32]⟩, iL n] _ HE.out (ok_S _ (ok_L ⟨h0, h1⟩ ok_nil)) (by simp) (by
      simp only [itemsB_S, itemsB_L, itemsB_nil, List.append_nil, List.length_append, List.length_cons, List.length_nil]
      omega)
    have hji : itemsB [iS ⟨#[98, 108, 97, 109, 101, 32]⟩, iL n] = [98, 108, 97, 109, 101, 32] ++ Lib.itoa n := by
      simp only [itemsB_S, itemsB_L, itemsB_nil, List.append_nil]
    rw [hji, HS.out] at hj
    have HJ := Lib.hid hj
    rw [if_pos h1k]
    clear hj hji h1k
    go_enter Tryd.func19, Tryd.ntmps19
    go_wp2_with fail
    refine HJ.out.mono ?_
    rintro e w3 ⟨rfl, b3⟩
    dsimp only
    go_wp2
    go_ret
    exact ⟨rfl, HB.out.trans (b3.mono (Nat.le_succ _))⟩
  · have q1 : (k == 1) = false := by rw [beq_eq_false_iff_ne]; exact h1k
    rw [if_neg h1k]
    clear h1k
    by_cases h2k : k = 2
    · have q2 : (k == 2) = true := by rw [beq_iff_eq]; exact h2k
      have hj := joined_new [iS ⟨#[116, 114, 97, 112, 32]⟩, iL n] _ HE.out (ok_S _ (ok_L ⟨h0, h1⟩ ok_nil)) (by simp) (by
        simp only [itemsB_S, itemsB_L, itemsB_nil, List.append_nil, List.length_append, List.length_cons, List.length_nil]
        omega)
      have hji : itemsB [iS ⟨#[116, 114, 97, 112, 32]⟩, iL n] = [116, 114, 97, 112, 32] ++ Lib.itoa n := by
        simp only [itemsB_S, itemsB_L, itemsB_nil, List.append_nil]
      rw [hji, HS.out] at hj
      have HJ := Lib.hid hj
      rw [if_pos h2k]
      clear hj hji h2k
      go_enter Tryd.func19, Tryd.ntmps19
      go_wp2_with fail
      refine HJ.out.mono ?_
      rintro e w3 ⟨rfl, b3⟩
      dsimp only
      go_wp2
      go_ret
      exact ⟨rfl, HB.out.trans (b3.mono (Nat.le_succ _))⟩
    · have q2 : (k == 2) = false := by rw [beq_eq_false_iff_ne]; exact h2k
      rw [if_neg h2k]
      clear h2k
      go_enter Tryd.func19, Tryd.ntmps19
      go_wp2
      go_ret
      exact ⟨rfl, HB.out⟩
end Shw
end Go.Proofs.YthamcklkmchkiaaDoor
