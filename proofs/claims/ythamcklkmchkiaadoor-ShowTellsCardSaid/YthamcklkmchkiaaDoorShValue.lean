/-
  DERIVED. LAYER 21 (show): a value, an outcome, walked.
  DERIVED. THE LIVE QUESTION OF LAYER 21's STATEMENTS, WALKED: it is true.
-/
import Derived.Test.YthamcklkmchkiaaDoorShNext
namespace Go.Proofs.YthamcklkmchkiaaDoor
open Go.RowKit
namespace Shw
open Gl Glw Sh

set_option maxHeartbeats 1000000 in
set_option maxRecDepth 100000 in
theorem Value (b off cap : Nat) (L : List VN) (f : Nat) (t : List UInt8) (m : Nat) (hF : showF f L = some (t, m)) (w : World) (hRV : RdV w b off L) (hE : Env w) (hok : ∀ n ∈ L, VOk n) (hL : L.length ≤ 100000) :
    Calls Tryd.prog 17 #[.slice (some ⟨b, off, none⟩) L.length cap] w fun e w' => e = .returned (.string ⟨t.toArray⟩) ∧ Below w.heap.size w w' := by
  have hB : Below w.heap.size w (w.alloc (.cells #[.slice (some ⟨b, off, none⟩) L.length cap, .int .i64 0] 62)) := (Below.refl _ _).alloc (Nat.le_refl _) _
  have hr : Rd (w.alloc (.cells #[.slice (some ⟨b, off, none⟩) L.length cap, .int .i64 0] 62)) w.heap.size b off L.length cap 0 := heap_alloc_new w _
  have hN := Lib.hid (next w b off cap L hRV hE hok hL w.heap.size (Nat.le_refl _) f 0 t m (by rw [List.drop_zero]; exact hF) _ hB hr)
  have HB := Lib.hid hB
  clear hB hr hF hRV hE hok
  go_enter Tryd.func17, Tryd.ntmps17
  go_wp2_with fail
  refine hN.out.mono ?_
  rintro e w3 ⟨rfl, _, a3⟩
  dsimp only
  go_wp2
  go_ret
  exact ⟨rfl, HB.out.trans (a3.below (Nat.le_refl _) HB.out.size)⟩

/-- An outcome as text, where what is done is shown so. -/
def outL (t : List UInt8) (k n : Int) : List UInt8 :=
  if k = 0 then t else if k = 1 then [98, 108, 97, 109, 101, 32] ++ Lib.itoa n else if k = 2 then [116, 114, 97, 112, 32] ++ Lib.itoa n else [115, 112, 101, 110, 116]

set_option maxHeartbeats 1000000 in
set_option maxRecDepth 100000 in
theorem OutcomeDone (b off cap : Nat) (n : Int) (L : List VN) (f : Nat) (t : List UInt8) (m : Nat) (hF : showF f L = some (t, m)) (w : World) (hRV : RdV w b off L) (hE : Env w) (hok : ∀ n ∈ L, VOk n) (hL : L.length ≤ 100000) :
    Calls Tryd.prog 19 #[.agg #[.int .i64 0, .slice (some ⟨b, off, none⟩) L.length cap, .int .i64 n]] w fun e w' => e = .returned (.string ⟨t.toArray⟩) ∧ Below w.heap.size w w' := by
  have hB : Below w.heap.size w (w.alloc (.cells #[.int .i64 0, .slice (some ⟨b, off, none⟩) L.length cap, .int .i64 n] 41)) := (Below.refl _ _).alloc (Nat.le_refl _) _
  have hN := Lib.hid (Value b off cap L f t m hF _ (hRV.since hRV.1 hB) (hE.below hB) hok hL)
  have HB := Lib.hid hB
  clear hB hF hRV hE hok
  go_enter Tryd.func19, Tryd.ntmps19
  go_wp2_with fail
  refine hN.out.mono ?_
  rintro e w3 ⟨rfl, b3⟩
  dsimp only
  go_wp2
  go_ret
  exact ⟨rfl, HB.out.trans (b3.mono HB.out.size)⟩

set_option maxHeartbeats 1000000 in
set_option maxRecDepth 100000 in
theorem OutcomeElse (V : Go.Value) (k n : Int) (hk : k ≠ 0) (h0 : -9223372036854775808 ≤ n) (h1 : n ≤ 9223372036854775807) (w : World) (hE : Env w) :
    Calls Tryd.prog 19 #[.agg #[.int .i64 k, V, .int .i64 n]] w fun e w' => e = .returned (.string ⟨(outL [] k n).toArray⟩) ∧ Below w.heap.size w w' := by
  have hB : Below w.heap.size w (w.alloc (.cells #[.int .i64 k, V, .int .i64 n] 41)) := (Below.refl _ _).alloc (Nat.le_refl _) _
  have hs : (w.alloc (.cells #[.int .i64 k, V, .int .i64 n] 41)).heap.size = w.heap.size + 1 := by simp
  have HS := Lib.hid hs
  have HE := Lib.hid (hE.below hB)
  have HB := Lib.hid hB
  have q0 : (k == 0) = false := by rw [beq_eq_false_iff_ne]; exact hk
  have HO : outL [] k n = if k = 1 then [98, 108, 97, 109, 101, 32] ++ Lib.itoa n else if k = 2 then [116, 114, 97, 112, 32] ++ Lib.itoa n else [115, 112, 101, 110, 116] := by unfold outL; rw [if_neg hk]
  rw [HO]
  have hlen := itoa_len n h0 h1
  clear hB hE hk HO hs
  by_cases h1k : k = 1
  · have q1 : (k == 1) = true := by rw [beq_iff_eq]; exact h1k
    have hj := joined_new [iS ⟨#[98, 108, 97, 109, 101, 32]⟩, iL n] _ HE.out (ok_S _ (ok_L ⟨h0, h1⟩ ok_nil)) (by simp) (by
      simp only [itemsB_S, itemsB_L, itemsB_nil, List.append_nil, List.length_append, List.length_cons, List.length_nil]
      omega)
    have hji : itemsB [iS ⟨#[98, 108, 97, 109, 101, 32]⟩, iL n] = [98, 108, 97, 109, 101, 32] ++ Lib.itoa n := by
      simp only [itemsB_S, itemsB_L, itemsB_nil, List.append_nil]
    rw [hji, HS.out] at hj
    have HJ := Lib.hid hj
    rw [if_pos h1k]
    clear hj hji h1k
    go_enter Tryd.func19, Tryd.ntmps19
    go_wp2_with fail
    refine HJ.out.mono ?_
    rintro e w3 ⟨rfl, b3⟩
    dsimp only
    go_wp2
    go_ret
    exact ⟨rfl, HB.out.trans (b3.mono (Nat.le_succ _))⟩
  · have q1 : (k == 1) = false := by rw [beq_eq_false_iff_ne]; exact h1k
    rw [if_neg h1k]
    clear h1k
    by_cases h2k : k = 2
    · have q2 : (k == 2) = true := by rw [beq_iff_eq]; exact h2k
      have hj := joined_new [iS ⟨#[116, 114, 97, 112, 32]⟩, iL n] _ HE.out (ok_S _ (ok_L ⟨h0, h1⟩ ok_nil)) (by simp) (by
        simp only [itemsB_S, itemsB_L, itemsB_nil, List.append_nil, List.length_append, List.length_cons, List.length_nil]
        omega)
      have hji : itemsB [iS ⟨#[116, 114, 97, 112, 32]⟩, iL n] = [116, 114, 97, 112, 32] ++ Lib.itoa n := by
        simp only [itemsB_S, itemsB_L, itemsB_nil, List.append_nil]
      rw [hji, HS.out] at hj
      have HJ := Lib.hid hj
      rw [if_pos h2k]
      clear hj hji h2k
      go_enter Tryd.func19, Tryd.ntmps19
      go_wp2_with fail
      refine HJ.out.mono ?_
      rintro e w3 ⟨rfl, b3⟩
      dsimp only
      go_wp2
      go_ret
      exact ⟨rfl, HB.out.trans (b3.mono (Nat.le_succ _))⟩
    · have q2 : (k == 2) = false := by rw [beq_eq_false_iff_ne]; exact h2k
      rw [if_neg h2k]
      clear h2k
      go_enter Tryd.func19, Tryd.ntmps19
      go_wp2
      go_ret
      exact ⟨rfl, HB.out⟩
end Shw
end Go.Proofs.YthamcklkmchkiaaDoor
namespace Go.Proofs.YthamcklkmchkiaaDoor
open Go.RowKit
namespace Shw
open Gl Glw Sh

def alL : List VN := [⟨4, ⟨#[]⟩, ⟨#[]⟩, 0, 2, none, 0, 0, none, 0, 0⟩, ⟨0, ⟨#[97]⟩, ⟨#[]⟩, 1, 0, none, 0, 0, none, 0, 0⟩, ⟨6, ⟨#[98]⟩, ⟨#[]⟩, 0, 0, none, 0, 0, none, 0, 0⟩]
theorem al_show : showF 2 alL = some ([123, 97, 58, 32, 49, 44, 32, 98, 58, 32, 60, 102, 117, 110, 62, 125], 3) := by decide +kernel
theorem al_out : outL [] 1 3 = [98, 108, 97, 109, 101, 32, 51] := by decide +kernel
theorem al_wrong : wrongL [109] [97, 10, 98] 2 2 = [109, 58, 50, 58, 49, 58, 32, 102, 111, 114, 109] := by decide +kernel
theorem al_ok : ∀ n ∈ alL, VOk n := by
  intro n hn
  simp only [alL, List.mem_cons, List.not_mem_nil, or_false] at hn
  rcases hn with rfl | rfl | rfl <;> (refine ⟨?_, ?_, ?_, ?_⟩ <;> decide)

/-- The cells of a node. -/
def vnC (n : VN) : List Go.Value := [.int .i64 n.k, .string n.lab, .string n.nm, .int .i64 n.num, .int .i64 n.many, .slice n.tA n.tn n.tc, .slice n.uA n.un n.uc]
def vnsC : List VN → List Go.Value
  | [] => []
  | n :: l => vnC n ++ vnsC l
theorem vnsC_at : ∀ (l : List VN) (i : Nat) (n : VN) (j : Nat), l[i]? = some n → j < 7 → (vnsC l)[i * 7 + j]? = (vnC n)[j]?
  | [], i, n, j, h, _ => by simp at h
  | m :: l, 0, n, j, h, hj => by
    simp only [List.getElem?_cons_zero, Option.some.injEq] at h
    subst h
    rw [vnsC, Nat.zero_mul, Nat.zero_add, List.getElem?_append_left (by simpa [vnC] using hj)]
  | m :: l, i + 1, n, j, h, hj => by
    rw [vnsC, List.getElem?_append_right (by simp only [vnC, List.length_cons, List.length_nil]; omega), ← vnsC_at l i n j (by simpa using h) hj]
    congr 1
    simp only [vnC, List.length_cons, List.length_nil]; omega
/-- A new row of nodes. -/
theorem RdV_new (w : World) (l : List VN) (t : TypeId) : RdV (w.alloc (.cells (vnsC l).toArray t)) w.heap.size 0 l := by
  refine ⟨by simp, fun i n h => ?_⟩
  have hc : ∀ j, j < 7 → (w.alloc (.cells (vnsC l).toArray t)).cell? ⟨w.heap.size, 0 + i * 7 + j, none⟩ = (vnC n)[j]? := fun j hj => by
    rw [World.cell?_alloc_at _ _ _ _ rfl, ← vnsC_at l i n j h hj]
    simp
  exact ⟨hc 0 (by omega), hc 1 (by omega), hc 2 (by omega), hc 3 (by omega), hc 4 (by omega), hc 5 (by omega), hc 6 (by omega)⟩

theorem al_Value (w : World) (hE : Env w) : Calls Tryd.prog 17 #[.slice (some ⟨w.heap.size, 0, none⟩) 3 3] (w.alloc (.cells (vnsC alL).toArray 38)) fun e w' => e = .returned (.string ⟨#[123, 97, 58, 32, 49, 44, 32, 98, 58, 32, 60, 102, 117, 110, 62, 125]⟩) ∧ Below w.heap.size w w' := by
  have hb : Below w.heap.size w (w.alloc (.cells (vnsC alL).toArray 38)) := (Below.refl _ _).alloc (Nat.le_refl _) _
  refine (Value w.heap.size 0 3 alL 2 _ 3 al_show _ (RdV_new w alL _) (hE.below hb) al_ok (by decide)).mono ?_
  rintro e w' ⟨rfl, b⟩
  exact ⟨rfl, hb.trans (b.mono hb.size)⟩
theorem al_Outcome (w : World) (hE : Env w) : Calls Tryd.prog 19 #[.agg #[.int .i64 1, .slice none 0 0, .int .i64 3]] w fun e w' => e = .returned (.string ⟨#[98, 108, 97, 109, 101, 32, 51]⟩) ∧ Below w.heap.size w w' := by
  have := OutcomeElse (.slice none 0 0) 1 3 (by decide) (by decide) (by decide) w hE
  rw [al_out] at this
  exact this
theorem al_Wrong (w : World) (hE : Env w) : Calls Tryd.prog 12 #[.string ⟨#[109]⟩, .string ⟨#[97, 10, 98]⟩, .int .i64 2, .int .i64 2] w fun e w' => e = .returned (.string ⟨#[109, 58, 50, 58, 49, 58, 32, 102, 111, 114, 109]⟩) ∧ Below w.heap.size w w' := by
  have := Wrong ⟨#[109]⟩ ⟨#[97, 10, 98]⟩ 2 2 w hE (by decide) (by decide) (by decide) (by decide)
  rw [show (⟨#[109]⟩ : ByteArray).data.toList = [109] from rfl, show (⟨#[97, 10, 98]⟩ : ByteArray).data.toList = [97, 10, 98] from rfl, al_wrong] at this
  exact this

set_option maxHeartbeats 2000000 in
set_option maxRecDepth 100000 in
theorem alive (w : World) (hE : Env w) : Calls Tryd.prog 9 #[] w fun e w' => e = .returned (.bool true) ∧ Below w.heap.size w w' := by
  have hV := al_Value w hE
  have HE := Lib.hid hE
  have HV := Lib.hid hV
  clear hE hV
  go_enter Tryd.func9, Tryd.ntmps9
  go_wp2_with fail
  refine HV.out.mono ?_
  rintro e w1 ⟨rfl, b1⟩
  have HB := Lib.hid b1
  clear b1
  dsimp only
  go_wp2_with fail
  refine (al_Outcome _ (HE.out.below HB.out)).mono ?_
  rintro e w2 ⟨rfl, b2⟩
  have HB2 := Lib.hid (HB.out.trans (b2.mono HB.out.size))
  clear b2
  dsimp only
  go_wp2_with fail
  refine (al_Wrong _ (HE.out.below HB2.out)).mono ?_
  rintro e w3 ⟨rfl, b3⟩
  dsimp only
  go_wp2
  go_ret
  exact ⟨rfl, HB2.out.trans (b3.mono HB2.out.size)⟩
end Shw
end Go.Proofs.YthamcklkmchkiaaDoor
