/-
  DERIVED. LAYER 21 (show), the reference's, walked: an outcome as text.
  DERIVED. LAYER 21 (show): an entry's choices, as they lie, and their text; the reference's Entry, walked.
-/
import Derived.Test.YthamcklkmchkiaaDoorShRefV
import Derived.Test.YthamcklkmchkiaaDoorShTyNd
namespace Go.Proofs.YthamcklkmchkiaaDoor
open Go.RowKit
namespace Shw
open Gl Glw Sh

set_option maxHeartbeats 1000000 in
set_option maxRecDepth 100000 in
theorem RefOutcomeDone (t : VT) (hok : okT t) (hl : (flatT t).length ≤ 1000) (hv : ∀ n ∈ flatT t, VOk n) (b off cap : Nat) (n : Int) (hcap : (flatT t).length ≤ cap) (w : World) (hR : RdV w b off (flatT t)) :
    Calls Tryd.prog 22 #[.agg #[.int .i64 0, .slice (some ⟨b, off, none⟩) (flatT t).length cap, .int .i64 n]] w (TextPost (showT t) w) := by
  have hB : Below w.heap.size w (w.alloc (.cells #[.int .i64 0, .slice (some ⟨b, off, none⟩) (flatT t).length cap, .int .i64 n] 41)) := (Below.refl _ _).alloc (Nat.le_refl _) _
  have hN := Lib.hid (RefValue _ t hok (Nat.le_refl _) hl hv b off cap _ hcap (hR.since hR.1 hB))
  have HB := Lib.hid hB
  obtain ⟨L, hL⟩ : ∃ L, (flatT t).length = L := ⟨_, rfl⟩
  rw [hL] at hN HB ⊢
  clear hB hok hv hR hl hcap
  go_enter Tryd.func22, Tryd.ntmps22
  go_wp2_with fail
  refine hN.out.mono ?_
  rintro e w3 ⟨rfl, b3⟩
  dsimp only
  go_wp2
  go_ret
  exact ⟨rfl, HB.out.trans (b3.mono HB.out.size)⟩

set_option maxHeartbeats 1000000 in
set_option maxRecDepth 100000 in
theorem RefOutcomeElse (V : Go.Value) (k n : Int) (hk : k ≠ 0) (h0 : -9223372036854775808 ≤ n) (h1 : n ≤ 9223372036854775807) (w : World) :
    Calls Tryd.prog 22 #[.agg #[.int .i64 k, V, .int .i64 n]] w (TextPost (outL [] k n) w) := by
  have hB : Below w.heap.size w (w.alloc (.cells #[.int .i64 k, V, .int .i64 n] 41)) := (Below.refl _ _).alloc (Nat.le_refl _) _
  have hs : (w.alloc (.cells #[.int .i64 k, V, .int .i64 n] 41)).heap.size = w.heap.size + 1 := by simp
  have HB := Lib.hid hB
  have q0 : (k == 0) = false := by rw [beq_eq_false_iff_ne]; exact hk
  have HO : outL [] k n = if k = 1 then [98, 108, 97, 109, 101, 32] ++ Lib.itoa n else if k = 2 then [116, 114, 97, 112, 32] ++ Lib.itoa n else [115, 112, 101, 110, 116] := by unfold outL; rw [if_neg hk]
  rw [HO]
  have hlen := itoa_len n h0 h1
  have hF := Lib.hid (Figures n (w.alloc (.cells #[.int .i64 k, V, .int .i64 n] 41)) h0 h1)
  obtain ⟨y, hy⟩ : ∃ y : ByteArray, (⟨(Lib.itoa n).toArray⟩ : ByteArray) = y := ⟨_, rfl⟩
  have hyl : y.data.toList = Lib.itoa n := by rw [← hy]
  have hys : y.size ≤ 1000 := by rw [← size_data, hyl]; omega
  rw [hy] at hF
  have HYL := Lib.hid hyl
  clear hB hk HO hs hy hyl hlen
  by_cases h1k : k = 1
  · have q1 : (k == 1) = true := by rw [beq_iff_eq]; exact h1k
    rw [if_pos h1k]
    have f1 : (9223372036854775807 < 6 + y.size) = False := by simp; omega
    clear h1k
    go_enter Tryd.func22, Tryd.ntmps22
    go_wp2_with fail
    refine hF.out.mono ?_
    rintro e w3 ⟨rfl, b3⟩
    dsimp only
    go_wp2_with fail
    go_ret
    exact text_post (by rw [app_data, HYL.out]; rfl) (HB.out.trans (b3.mono HB.out.size))
  · have q1 : (k == 1) = false := by rw [beq_eq_false_iff_ne]; exact h1k
    rw [if_neg h1k]
    clear h1k
    by_cases h2k : k = 2
    · have q2 : (k == 2) = true := by rw [beq_iff_eq]; exact h2k
      rw [if_pos h2k]
      have f1 : (9223372036854775807 < 5 + y.size) = False := by simp; omega
      clear h2k
      go_enter Tryd.func22, Tryd.ntmps22
      go_wp2_with fail
      refine hF.out.mono ?_
      rintro e w3 ⟨rfl, b3⟩
      dsimp only
      go_wp2_with fail
      go_ret
      exact text_post (by rw [app_data, HYL.out]; rfl) (HB.out.trans (b3.mono HB.out.size))
    · have q2 : (k == 2) = false := by rw [beq_eq_false_iff_ne]; exact h2k
      rw [if_neg h2k]
      clear h2k
      go_enter Tryd.func22, Tryd.ntmps22
      go_wp2
      go_ret
      exact ⟨rfl, HB.out⟩
end Shw
end Go.Proofs.YthamcklkmchkiaaDoor
namespace Go.Proofs.YthamcklkmchkiaaDoor
open Go.RowKit
namespace Sh
open Gl
/-- A choice: its site, where its type lies, the type as a tree. -/
structure CH where
  s : Int
  b : Nat
  off : Nat
  cap : Nat
  t : TT
def chTx (c : CH) : List UInt8 := Lib.itoa c.s ++ (58 :: 32 :: printTT c.t)
def entTx (cs : List CH) : List UInt8 := 60 :: (Lib.join (cs.map chTx) [59, 32] ++ [62])
def ChOk (c : CH) : Prop := okTT c.t ∧ (flatTT c.t).length ≤ 30 ∧ NamesOk (flatTT c.t) ∧ -9223372036854775808 ≤ c.s ∧ c.s ≤ 9223372036854775807
theorem ch_len {c : CH} (h : ChOk c) : (chTx c).length ≤ 70000 := by
  have h1 := print_len c.t h.2.2.1
  have h2 := Shw.itoa_len c.s h.2.2.2.1 h.2.2.2.2
  have h3 := h.2.1
  unfold chTx
  simp only [List.length_append, List.length_cons]
  omega
theorem ent_len : ∀ cs : List CH, (∀ c ∈ cs, ChOk c) → (Lib.join (cs.map chTx) [59, 32]).length ≤ 70002 * cs.length
  | [], _ => by simp [Lib.join_nil]
  | [c], h => by
    have := ch_len (h c (by simp))
    rw [List.map_cons, List.map_nil, Lib.join_one]
    simp only [List.length_cons, List.length_nil]; omega
  | c :: d :: r, h => by
    have h1 := ch_len (h c (by simp))
    have h2 := ent_len (d :: r) (fun x hx => h x (by simp [hx]))
    rw [List.map_cons, Lib.join_cons] at h2 ⊢
    simp only [Lib.joinTail, List.map_cons, List.flatten_cons, List.length_append, List.length_cons, List.length_nil] at h1 h2 ⊢
    omega
end Sh
namespace Shw
open Gl Glw Sh
def RdC (w : World) (b off : Nat) (cs : List CH) : Prop := b < w.heap.size ∧ ∀ i c, cs[i]? = some c → w.cell? ⟨b, off + i * 2, none⟩ = some (.int .i64 c.s) ∧ w.cell? ⟨b, off + i * 2 + 1, none⟩ = some (.slice (some ⟨c.b, c.off, none⟩) (flatTT c.t).length c.cap) ∧ RdT w c.b c.off (flatTT c.t)
theorem RdC.since {w w' : World} {b off : Nat} {cs : List CH} (h : RdC w b off cs) (hb : Below w.heap.size w w') : RdC w' b off cs :=
  ⟨Nat.lt_of_lt_of_le h.1 hb.size, fun i c hi => by
    obtain ⟨h1, h2, h3⟩ := h.2 i c hi
    exact ⟨(hb.cell (p := ⟨b, off + i * 2, none⟩) h.1).trans h1, (hb.cell (p := ⟨b, off + i * 2 + 1, none⟩) h.1).trans h2, h3.since h3.1 hb⟩⟩
end Shw
end Go.Proofs.YthamcklkmchkiaaDoor
