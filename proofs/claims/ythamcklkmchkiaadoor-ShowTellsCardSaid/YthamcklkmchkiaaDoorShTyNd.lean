/-
  DERIVED. LAYER 3 (ty), walked: the printer's node; Print.
-/
import Derived.Test.YthamcklkmchkiaaDoorShTyPr
import Derived.StillTailTactics
namespace Go.Proofs.YthamcklkmchkiaaDoor
open Go.RowKit
namespace Shw
open Gl Glw Sh

set_option maxRecDepth 100000 in
theorem words_at0 (w : World) : Sem.run Tryd.prog (Instr.index 112 (Go.Value.agg wordsA) (.int .i64 0)) w = .ok (.string ⟨#[63]⟩) w := by unfold wordsA; go_simp; try rfl
set_option maxRecDepth 100000 in
theorem words_at1 (w : World) : Sem.run Tryd.prog (Instr.index 112 (Go.Value.agg wordsA) (.int .i64 1)) w = .ok (.string ⟨#[105, 110, 116]⟩) w := by unfold wordsA; go_simp; try rfl
set_option maxRecDepth 100000 in
theorem words_at2 (w : World) : Sem.run Tryd.prog (Instr.index 112 (Go.Value.agg wordsA) (.int .i64 2)) w = .ok (.string ⟨#[98, 111, 111, 108]⟩) w := by unfold wordsA; go_simp; try rfl
set_option maxRecDepth 100000 in
theorem words_at3 (w : World) : Sem.run Tryd.prog (Instr.index 112 (Go.Value.agg wordsA) (.int .i64 3)) w = .ok (.string ⟨#[115, 116, 114, 105, 110, 103]⟩) w := by unfold wordsA; go_simp; try rfl
set_option maxRecDepth 100000 in
theorem words_at4 (w : World) : Sem.run Tryd.prog (Instr.index 112 (Go.Value.agg wordsA) (.int .i64 4)) w = .ok (.string ⟨#[117, 110, 105, 116]⟩) w := by unfold wordsA; go_simp; try rfl
/-- The node's own copy stands. -/
def NdS (B : Nat) (w : World) (cs : Array Go.Value) (wx : World) : Prop := Below B w wx ∧ wx.heap[w.heap.size]? = some (.cells cs 66 (0, 0))
theorem NdS.drew {B : Nat} {w : World} {cs : Array Go.Value} {wx : World} (h : NdS B w cs wx) : NdS B w cs wx.drew := ⟨h.1.drew, h.2⟩
theorem NdS.since {B : Nat} {w : World} {cs : Array Go.Value} {wx wy : World} (h : NdS B w cs wx.drew) (hb : Below wx.drew.heap.size wx.drew wy) (hB : B ≤ wx.heap.size) : NdS B w cs wy :=
  ⟨h.1.trans (hb.mono hB), (hb.block _ (Array.getElem?_eq_some_iff.1 h.2).1).trans h.2⟩
theorem NdS.kept {B b : Nat} {w : World} {cs : Array Go.Value} {wx wy : World} (h : NdS B w cs wx) (hb : Below B wx wy) (hk : Bldp.Kept b wx wy) (hne : w.heap.size ≠ b) : NdS B w cs wy :=
  ⟨h.1.trans hb, hk _ _ h.2 (fun e => hne (Option.some.inj e)) (fun c fz e => by injection e with _ e _; revert e; decide)⟩

set_option maxHeartbeats 2000000 in
set_option maxRecDepth 100000 in
theorem nodeWord (bT off cap B b : Nat) (L : List TN) (w0 : World) (hR : RdT w0 bT off L) (hbT : bT < B) (i : Nat) (n : TN) (hi : i < L.length) (hn : L[i]? = some n) (hk : n.k = 0 ∨ n.k = 1 ∨ n.k = 2 ∨ n.k = 3 ∨ n.k = 4) (hi2 : i ≤ 1000000) (acc : List UInt8) (w : World)
    (hI : Bldp.Is B b (Lib.byteCells acc) w) (hB : Below B w0 w) (hBw : B ≤ w.heap.size) (hl : acc.length + (wordTx n.k).length ≤ 1000000000) :
    Calls Tryd.prog 57 #[.pointer (some ⟨b, 0, none⟩), .slice (some ⟨bT, off, none⟩) L.length cap, .int .i64 i] w (PrPost B b (acc ++ wordTx n.k) (i + 1) w) := by
  obtain ⟨x, hx, a0, a1, a2⟩ := (hR.since hbT hB).at_ hi
  have hxa : x = n := by
    rw [hx] at hn
    exact Option.some.inj hn
  rw [hxa] at a0 a1 a2
  have hi0 : (0 : Int) ≤ i := by omega
  have hi1 : (i : Int) < L.length := by omega
  have hlt : b < w.heap.size := by
    rcases hI with h | h
    · exact h.lt
    · exact h.lt
  clear hx hxa hR hB hn
  obtain ⟨k, nm, nn⟩ := n
  dsimp only at a0 a1 a2 hk hl ⊢
  have HI := Lib.hid hI
  have HBW := Lib.hid hBw
  have HL := Lib.hid hl
  clear hI hBw hl
  have hne : w.heap.size ≠ b := by omega
  rcases hk with h | h | h | h | h
  · -- the word 0
    subst h
    go_enter Tryd.func57, Tryd.ntmps57
    go_wp2_with fail
    obtain ⟨W2, hW2⟩ : ∃ W2, w.alloc (.cells #[.int .i64 0, .string nm, .int .i64 nn] 66) = W2 := ⟨_, rfl⟩
    have hNd : NdS B w #[.int .i64 0, .string nm, .int .i64 nn] W2 := by rw [← hW2]; exact ⟨(Below.refl _ _).alloc HBW.out _, heap_alloc_new w _⟩
    have hI2 : Bldp.Is B b (Lib.byteCells acc) W2 := by rw [← hW2]; exact IsP_below HI.out ((Below.refl _ _).alloc (Nat.le_refl _) _)
    have hsz2 : B ≤ W2.heap.size := Nat.le_trans HBW.out hNd.1.size
    rw [hW2]
    clear hW2
    have HNS := Lib.hid (show ∀ wq, NdS B w #[.int .i64 0, .string nm, .int .i64 nn] wq → wq.cell? ⟨w.heap.size, 0, none⟩ = some (.int .i64 0) from fun wq hq => by rw [Lib.cell_of_heap hq.2]; rfl)
    have HND := Lib.hid hNd
    have HI2 := Lib.hid hI2
    clear hNd hI2
    have hS0 : NdS B w #[.int .i64 0, .string nm, .int .i64 nn] W2.drew := HND.out.drew
    refine wp_region_held_drew (S := fun wx => NdS B w #[.int .i64 0, .string nm, .int .i64 nn] wx) (by kernel_rfl) hS0 (fun hHeld => ?_)
    clear hHeld
    refine wpAnyH_take (i := 0) (v := ?_) rfl (by kernel_rfl) (by kernel_rfl) (by kernel_rfl) (fun _ _ _ h => h) (Or.inl ⟨by rfl, ?_⟩) (by assumption) ?_
    rotate_left
    · (intro wq hq; clear hq; go_simp; try with_reducible rfl)
    simp only [List.getElem_toArray, List.getElem_cons_zero, Act.put, List.setIfInBounds_toArray, List.set_cons_zero, List.set_cons_succ]
    refine wpAnyH_take (i := 1) (v := ?_) rfl (by kernel_rfl) (by kernel_rfl) (by kernel_rfl) (fun _ _ _ h => h) (Or.inl ⟨by rfl, ?_⟩) (by assumption) ?_
    rotate_left
    · (intro wq hq; clear hq; go_simp; try with_reducible rfl)
    simp only [List.getElem_toArray, List.getElem_cons_succ, List.getElem_cons_zero, Act.put, List.setIfInBounds_toArray, List.set_cons_zero, List.set_cons_succ]
    refine wpAnyH_take (i := 2) (v := ?_) rfl (by kernel_rfl) (by kernel_rfl) (by kernel_rfl) (fun _ _ _ h => h) (Or.inl ⟨by rfl, ?_⟩) (by assumption) ?_
    rotate_left
    · (intro wq hq; clear hq; go_simp; try with_reducible rfl)
    simp only [List.getElem_toArray, List.getElem_cons_succ, List.getElem_cons_zero, Act.put, List.setIfInBounds_toArray, List.set_cons_zero, List.set_cons_succ]
    refine wpAnyH_take (i := 4) (v := ?_) rfl (by kernel_rfl) (by kernel_rfl) (by kernel_rfl) (fun _ _ _ h => h) (Or.inl ⟨by rfl, ?_⟩) (by assumption) ?_
    rotate_left
    · (intro wq hq; clear hq; go_simp; try with_reducible rfl)
    simp only [List.getElem_toArray, List.getElem_cons_succ, List.getElem_cons_zero, Act.put, List.setIfInBounds_toArray, List.set_cons_zero, List.set_cons_succ]
    refine wpAnyH_take (i := 5) (v := ?_) rfl (by kernel_rfl) (by kernel_rfl) (by kernel_rfl) (fun _ _ _ h => h) (Or.inl ⟨by rfl, ?_⟩) (by assumption) ?_
    rotate_left
    · (intro wq hq; have hx := HNS.out wq hq; clear hq; go_simp; try with_reducible rfl)
    simp only [List.getElem_toArray, List.getElem_cons_succ, List.getElem_cons_zero, Act.put, List.setIfInBounds_toArray, List.set_cons_zero, List.set_cons_succ]
    refine wpAnyH_ready (rs := [3]) (by kernel_rfl) (by simp) ?_
    refine AllReadyH.cons rfl (fun K hK => ?_) AllReadyH.nil
    go_simp
    go_at_call 79
    refine (tyWords _).mono ?_
    rintro e w3 ⟨rfl, q3⟩
    have s3 : NdS B w #[.int .i64 0, .string nm, .int .i64 nn] w3 := HND.out.drew.since q3 hsz2
    have HI3 := Lib.hid (IsP_below (W := W2.drew) (IsP_below HI2.out (Below.refl _ _).drew) q3)
    have hsz3 : B ≤ w3.heap.size := Nat.le_trans hsz2 q3.size
    clear q3
    go_wp2_with fail
    refine hK.out _ _ s3 (fun _ => ?_)
    clear hK K
    refine wpAnyH_take (i := 6) (v := ?_) rfl (by kernel_rfl) (by kernel_rfl) (by kernel_rfl) (fun _ _ _ h => h) (Or.inl ⟨by rfl, ?_⟩) (by assumption) ?_
    rotate_left
    · (intro wq hq; clear hq; go_simp; rw [words_at0]; go_simp; try with_reducible rfl)
    simp only [List.getElem_toArray, List.getElem_cons_succ, List.getElem_cons_zero, Act.put, List.setIfInBounds_toArray, List.set_cons_zero, List.set_cons_succ]
    refine wpAnyH_ready (rs := [7]) (by kernel_rfl) (by simp) ?_
    refine AllReadyH.cons rfl (fun K hK => ?_) AllReadyH.nil
    go_simp
    go_at_call 41
    refine (wsP B b acc ⟨#[63]⟩ _ HI3.out (show acc.length + 1 ≤ 1000000000 from HL.out) hsz3).mono ?_
    rintro e w4 ⟨rfl, h4, b4, k4⟩
    have s4 : NdS B w #[.int .i64 0, .string nm, .int .i64 nn] w4 := s3.kept b4 k4 hne
    have H4 := Lib.hid h4
    clear h4 k4
    go_wp2_with fail
    refine hK.out _ _ s4 (fun _ => ?_)
    clear hK K
    refine wpAnyH_done (by kernel_rfl) ?_ _
    go_wp2_with fail
    go_ret
    exact ⟨rfl, H4.out, s4.1⟩
  · -- the word 1
    subst h
    go_enter Tryd.func57, Tryd.ntmps57
    go_wp2_with fail
    obtain ⟨W2, hW2⟩ : ∃ W2, w.alloc (.cells #[.int .i64 1, .string nm, .int .i64 nn] 66) = W2 := ⟨_, rfl⟩
    have hNd : NdS B w #[.int .i64 1, .string nm, .int .i64 nn] W2 := by rw [← hW2]; exact ⟨(Below.refl _ _).alloc HBW.out _, heap_alloc_new w _⟩
    have hI2 : Bldp.Is B b (Lib.byteCells acc) W2 := by rw [← hW2]; exact IsP_below HI.out ((Below.refl _ _).alloc (Nat.le_refl _) _)
    have hsz2 : B ≤ W2.heap.size := Nat.le_trans HBW.out hNd.1.size
    rw [hW2]
    clear hW2
    have HNS := Lib.hid (show ∀ wq, NdS B w #[.int .i64 1, .string nm, .int .i64 nn] wq → wq.cell? ⟨w.heap.size, 0, none⟩ = some (.int .i64 1) from fun wq hq => by rw [Lib.cell_of_heap hq.2]; rfl)
    have HND := Lib.hid hNd
    have HI2 := Lib.hid hI2
    clear hNd hI2
    have hS0 : NdS B w #[.int .i64 1, .string nm, .int .i64 nn] W2.drew := HND.out.drew
    refine wp_region_held_drew (S := fun wx => NdS B w #[.int .i64 1, .string nm, .int .i64 nn] wx) (by kernel_rfl) hS0 (fun hHeld => ?_)
    clear hHeld
    refine wpAnyH_take (i := 0) (v := ?_) rfl (by kernel_rfl) (by kernel_rfl) (by kernel_rfl) (fun _ _ _ h => h) (Or.inl ⟨by rfl, ?_⟩) (by assumption) ?_
    rotate_left
    · (intro wq hq; clear hq; go_simp; try with_reducible rfl)
    simp only [List.getElem_toArray, List.getElem_cons_zero, Act.put, List.setIfInBounds_toArray, List.set_cons_zero, List.set_cons_succ]
    refine wpAnyH_take (i := 1) (v := ?_) rfl (by kernel_rfl) (by kernel_rfl) (by kernel_rfl) (fun _ _ _ h => h) (Or.inl ⟨by rfl, ?_⟩) (by assumption) ?_
    rotate_left
    · (intro wq hq; clear hq; go_simp; try with_reducible rfl)
    simp only [List.getElem_toArray, List.getElem_cons_succ, List.getElem_cons_zero, Act.put, List.setIfInBounds_toArray, List.set_cons_zero, List.set_cons_succ]
    refine wpAnyH_take (i := 2) (v := ?_) rfl (by kernel_rfl) (by kernel_rfl) (by kernel_rfl) (fun _ _ _ h => h) (Or.inl ⟨by rfl, ?_⟩) (by assumption) ?_
    rotate_left
    · (intro wq hq; clear hq; go_simp; try with_reducible rfl)
    simp only [List.getElem_toArray, List.getElem_cons_succ, List.getElem_cons_zero, Act.put, List.setIfInBounds_toArray, List.set_cons_zero, List.set_cons_succ]
    refine wpAnyH_take (i := 4) (v := ?_) rfl (by kernel_rfl) (by kernel_rfl) (by kernel_rfl) (fun _ _ _ h => h) (Or.inl ⟨by rfl, ?_⟩) (by assumption) ?_
    rotate_left
    · (intro wq hq; clear hq; go_simp; try with_reducible rfl)
    simp only [List.getElem_toArray, List.getElem_cons_succ, List.getElem_cons_zero, Act.put, List.setIfInBounds_toArray, List.set_cons_zero, List.set_cons_succ]
    refine wpAnyH_take (i := 5) (v := ?_) rfl (by kernel_rfl) (by kernel_rfl) (by kernel_rfl) (fun _ _ _ h => h) (Or.inl ⟨by rfl, ?_⟩) (by assumption) ?_
    rotate_left
    · (intro wq hq; have hx := HNS.out wq hq; clear hq; go_simp; try with_reducible rfl)
    simp only [List.getElem_toArray, List.getElem_cons_succ, List.getElem_cons_zero, Act.put, List.setIfInBounds_toArray, List.set_cons_zero, List.set_cons_succ]
    refine wpAnyH_ready (rs := [3]) (by kernel_rfl) (by simp) ?_
    refine AllReadyH.cons rfl (fun K hK => ?_) AllReadyH.nil
    go_simp
    go_at_call 79
    refine (tyWords _).mono ?_
    rintro e w3 ⟨rfl, q3⟩
    have s3 : NdS B w #[.int .i64 1, .string nm, .int .i64 nn] w3 := HND.out.drew.since q3 hsz2
    have HI3 := Lib.hid (IsP_below (W := W2.drew) (IsP_below HI2.out (Below.refl _ _).drew) q3)
    have hsz3 : B ≤ w3.heap.size := Nat.le_trans hsz2 q3.size
    clear q3
    go_wp2_with fail
    refine hK.out _ _ s3 (fun _ => ?_)
    clear hK K
    refine wpAnyH_take (i := 6) (v := ?_) rfl (by kernel_rfl) (by kernel_rfl) (by kernel_rfl) (fun _ _ _ h => h) (Or.inl ⟨by rfl, ?_⟩) (by assumption) ?_
    rotate_left
    · (intro wq hq; clear hq; go_simp; rw [words_at1]; go_simp; try with_reducible rfl)
    simp only [List.getElem_toArray, List.getElem_cons_succ, List.getElem_cons_zero, Act.put, List.setIfInBounds_toArray, List.set_cons_zero, List.set_cons_succ]
    refine wpAnyH_ready (rs := [7]) (by kernel_rfl) (by simp) ?_
    refine AllReadyH.cons rfl (fun K hK => ?_) AllReadyH.nil
    go_simp
    go_at_call 41
    refine (wsP B b acc ⟨#[105, 110, 116]⟩ _ HI3.out (show acc.length + 3 ≤ 1000000000 from HL.out) hsz3).mono ?_
    rintro e w4 ⟨rfl, h4, b4, k4⟩
    have s4 : NdS B w #[.int .i64 1, .string nm, .int .i64 nn] w4 := s3.kept b4 k4 hne
    have H4 := Lib.hid h4
    clear h4 k4
    go_wp2_with fail
    refine hK.out _ _ s4 (fun _ => ?_)
    clear hK K
    refine wpAnyH_done (by kernel_rfl) ?_ _
    go_wp2_with fail
    go_ret
    exact ⟨rfl, H4.out, s4.1⟩
  · -- the word 2
    subst h
    go_enter Tryd.func57, Tryd.ntmps57
    go_wp2_with fail
    obtain ⟨W2, hW2⟩ : ∃ W2, w.alloc (.cells #[.int .i64 2, .string nm, .int .i64 nn] 66) = W2 := ⟨_, rfl⟩
    have hNd : NdS B w #[.int .i64 2, .string nm, .int .i64 nn] W2 := by rw [← hW2]; exact ⟨(Below.refl _ _).alloc HBW.out _, heap_alloc_new w _⟩
    have hI2 : Bldp.Is B b (Lib.byteCells acc) W2 := by rw [← hW2]; exact IsP_below HI.out ((Below.refl _ _).alloc (Nat.le_refl _) _)
    have hsz2 : B ≤ W2.heap.size := Nat.le_trans HBW.out hNd.1.size
    rw [hW2]
    clear hW2
    have HNS := Lib.hid (show ∀ wq, NdS B w #[.int .i64 2, .string nm, .int .i64 nn] wq → wq.cell? ⟨w.heap.size, 0, none⟩ = some (.int .i64 2) from fun wq hq => by rw [Lib.cell_of_heap hq.2]; rfl)
    have HND := Lib.hid hNd
    have HI2 := Lib.hid hI2
    clear hNd hI2
    have hS0 : NdS B w #[.int .i64 2, .string nm, .int .i64 nn] W2.drew := HND.out.drew
    refine wp_region_held_drew (S := fun wx => NdS B w #[.int .i64 2, .string nm, .int .i64 nn] wx) (by kernel_rfl) hS0 (fun hHeld => ?_)
    clear hHeld
    refine wpAnyH_take (i := 0) (v := ?_) rfl (by kernel_rfl) (by kernel_rfl) (by kernel_rfl) (fun _ _ _ h => h) (Or.inl ⟨by rfl, ?_⟩) (by assumption) ?_
    rotate_left
    · (intro wq hq; clear hq; go_simp; try with_reducible rfl)
    simp only [List.getElem_toArray, List.getElem_cons_zero, Act.put, List.setIfInBounds_toArray, List.set_cons_zero, List.set_cons_succ]
    refine wpAnyH_take (i := 1) (v := ?_) rfl (by kernel_rfl) (by kernel_rfl) (by kernel_rfl) (fun _ _ _ h => h) (Or.inl ⟨by rfl, ?_⟩) (by assumption) ?_
    rotate_left
    · (intro wq hq; clear hq; go_simp; try with_reducible rfl)
    simp only [List.getElem_toArray, List.getElem_cons_succ, List.getElem_cons_zero, Act.put, List.setIfInBounds_toArray, List.set_cons_zero, List.set_cons_succ]
    refine wpAnyH_take (i := 2) (v := ?_) rfl (by kernel_rfl) (by kernel_rfl) (by kernel_rfl) (fun _ _ _ h => h) (Or.inl ⟨by rfl, ?_⟩) (by assumption) ?_
    rotate_left
    · (intro wq hq; clear hq; go_simp; try with_reducible rfl)
    simp only [List.getElem_toArray, List.getElem_cons_succ, List.getElem_cons_zero, Act.put, List.setIfInBounds_toArray, List.set_cons_zero, List.set_cons_succ]
    refine wpAnyH_take (i := 4) (v := ?_) rfl (by kernel_rfl) (by kernel_rfl) (by kernel_rfl) (fun _ _ _ h => h) (Or.inl ⟨by rfl, ?_⟩) (by assumption) ?_
    rotate_left
    · (intro wq hq; clear hq; go_simp; try with_reducible rfl)
    simp only [List.getElem_toArray, List.getElem_cons_succ, List.getElem_cons_zero, Act.put, List.setIfInBounds_toArray, List.set_cons_zero, List.set_cons_succ]
    refine wpAnyH_take (i := 5) (v := ?_) rfl (by kernel_rfl) (by kernel_rfl) (by kernel_rfl) (fun _ _ _ h => h) (Or.inl ⟨by rfl, ?_⟩) (by assumption) ?_
    rotate_left
    · (intro wq hq; have hx := HNS.out wq hq; clear hq; go_simp; try with_reducible rfl)
    simp only [List.getElem_toArray, List.getElem_cons_succ, List.getElem_cons_zero, Act.put, List.setIfInBounds_toArray, List.set_cons_zero, List.set_cons_succ]
    refine wpAnyH_ready (rs := [3]) (by kernel_rfl) (by simp) ?_
    refine AllReadyH.cons rfl (fun K hK => ?_) AllReadyH.nil
    go_simp
    go_at_call 79
    refine (tyWords _).mono ?_
    rintro e w3 ⟨rfl, q3⟩
    have s3 : NdS B w #[.int .i64 2, .string nm, .int .i64 nn] w3 := HND.out.drew.since q3 hsz2
    have HI3 := Lib.hid (IsP_below (W := W2.drew) (IsP_below HI2.out (Below.refl _ _).drew) q3)
    have hsz3 : B ≤ w3.heap.size := Nat.le_trans hsz2 q3.size
    clear q3
    go_wp2_with fail
    refine hK.out _ _ s3 (fun _ => ?_)
    clear hK K
    refine wpAnyH_take (i := 6) (v := ?_) rfl (by kernel_rfl) (by kernel_rfl) (by kernel_rfl) (fun _ _ _ h => h) (Or.inl ⟨by rfl, ?_⟩) (by assumption) ?_
    rotate_left
    · (intro wq hq; clear hq; go_simp; rw [words_at2]; go_simp; try with_reducible rfl)
    simp only [List.getElem_toArray, List.getElem_cons_succ, List.getElem_cons_zero, Act.put, List.setIfInBounds_toArray, List.set_cons_zero, List.set_cons_succ]
    refine wpAnyH_ready (rs := [7]) (by kernel_rfl) (by simp) ?_
    refine AllReadyH.cons rfl (fun K hK => ?_) AllReadyH.nil
    go_simp
    go_at_call 41
    refine (wsP B b acc ⟨#[98, 111, 111, 108]⟩ _ HI3.out (show acc.length + 4 ≤ 1000000000 from HL.out) hsz3).mono ?_
    rintro e w4 ⟨rfl, h4, b4, k4⟩
    have s4 : NdS B w #[.int .i64 2, .string nm, .int .i64 nn] w4 := s3.kept b4 k4 hne
    have H4 := Lib.hid h4
    clear h4 k4
    go_wp2_with fail
    refine hK.out _ _ s4 (fun _ => ?_)
    clear hK K
    refine wpAnyH_done (by kernel_rfl) ?_ _
    go_wp2_with fail
    go_ret
    exact ⟨rfl, H4.out, s4.1⟩
  · -- the word 3
    subst h
    go_enter Tryd.func57, Tryd.ntmps57
    go_wp2_with fail
    obtain ⟨W2, hW2⟩ : ∃ W2, w.alloc (.cells #[.int .i64 3, .string nm, .int .i64 nn] 66) = W2 := ⟨_, rfl⟩
    have hNd : NdS B w #[.int .i64 3, .string nm, .int .i64 nn] W2 := by rw [← hW2]; exact ⟨(Below.refl _ _).alloc HBW.out _, heap_alloc_new w _⟩
    have hI2 : Bldp.Is B b (Lib.byteCells acc) W2 := by rw [← hW2]; exact IsP_below HI.out ((Below.refl _ _).alloc (Nat.le_refl _) _)
    have hsz2 : B ≤ W2.heap.size := Nat.le_trans HBW.out hNd.1.size
    rw [hW2]
    clear hW2
    have HNS := Lib.hid (show ∀ wq, NdS B w #[.int .i64 3, .string nm, .int .i64 nn] wq → wq.cell? ⟨w.heap.size, 0, none⟩ = some (.int .i64 3) from fun wq hq => by rw [Lib.cell_of_heap hq.2]; rfl)
    have HND := Lib.hid hNd
    have HI2 := Lib.hid hI2
    clear hNd hI2
    have hS0 : NdS B w #[.int .i64 3, .string nm, .int .i64 nn] W2.drew := HND.out.drew
    refine wp_region_held_drew (S := fun wx => NdS B w #[.int .i64 3, .string nm, .int .i64 nn] wx) (by kernel_rfl) hS0 (fun hHeld => ?_)
    clear hHeld
    refine wpAnyH_take (i := 0) (v := ?_) rfl (by kernel_rfl) (by kernel_rfl) (by kernel_rfl) (fun _ _ _ h => h) (Or.inl ⟨by rfl, ?_⟩) (by assumption) ?_
    rotate_left
    · (intro wq hq; clear hq; go_simp; try with_reducible rfl)
    simp only [List.getElem_toArray, List.getElem_cons_zero, Act.put, List.setIfInBounds_toArray, List.set_cons_zero, List.set_cons_succ]
    refine wpAnyH_take (i := 1) (v := ?_) rfl (by kernel_rfl) (by kernel_rfl) (by kernel_rfl) (fun _ _ _ h => h) (Or.inl ⟨by rfl, ?_⟩) (by assumption) ?_
    rotate_left
    · (intro wq hq; clear hq; go_simp; try with_reducible rfl)
    simp only [List.getElem_toArray, List.getElem_cons_succ, List.getElem_cons_zero, Act.put, List.setIfInBounds_toArray, List.set_cons_zero, List.set_cons_succ]
    refine wpAnyH_take (i := 2) (v := ?_) rfl (by kernel_rfl) (by kernel_rfl) (by kernel_rfl) (fun _ _ _ h => h) (Or.inl ⟨by rfl, ?_⟩) (by assumption) ?_
    rotate_left
    · (intro wq hq; clear hq; go_simp; try with_reducible rfl)
    simp only [List.getElem_toArray, List.getElem_cons_succ, List.getElem_cons_zero, Act.put, List.setIfInBounds_toArray, List.set_cons_zero, List.set_cons_succ]
    refine wpAnyH_take (i := 4) (v := ?_) rfl (by kernel_rfl) (by kernel_rfl) (by kernel_rfl) (fun _ _ _ h => h) (Or.inl ⟨by rfl, ?_⟩) (by assumption) ?_
    rotate_left
    · (intro wq hq; clear hq; go_simp; try with_reducible rfl)
    simp only [List.getElem_toArray, List.getElem_cons_succ, List.getElem_cons_zero, Act.put, List.setIfInBounds_toArray, List.set_cons_zero, List.set_cons_succ]
    refine wpAnyH_take (i := 5) (v := ?_) rfl (by kernel_rfl) (by kernel_rfl) (by kernel_rfl) (fun _ _ _ h => h) (Or.inl ⟨by rfl, ?_⟩) (by assumption) ?_
    rotate_left
    · (intro wq hq; have hx := HNS.out wq hq; clear hq; go_simp; try with_reducible rfl)
    simp only [List.getElem_toArray, List.getElem_cons_succ, List.getElem_cons_zero, Act.put, List.setIfInBounds_toArray, List.set_cons_zero, List.set_cons_succ]
    refine wpAnyH_ready (rs := [3]) (by kernel_rfl) (by simp) ?_
    refine AllReadyH.cons rfl (fun K hK => ?_) AllReadyH.nil
    go_simp
    go_at_call 79
    refine (tyWords _).mono ?_
    rintro e w3 ⟨rfl, q3⟩
    have s3 : NdS B w #[.int .i64 3, .string nm, .int .i64 nn] w3 := HND.out.drew.since q3 hsz2
    have HI3 := Lib.hid (IsP_below (W := W2.drew) (IsP_below HI2.out (Below.refl _ _).drew) q3)
    have hsz3 : B ≤ w3.heap.size := Nat.le_trans hsz2 q3.size
    clear q3
    go_wp2_with fail
    refine hK.out _ _ s3 (fun _ => ?_)
    clear hK K
    refine wpAnyH_take (i := 6) (v := ?_) rfl (by kernel_rfl) (by kernel_rfl) (by kernel_rfl) (fun _ _ _ h => h) (Or.inl ⟨by rfl, ?_⟩) (by assumption) ?_
    rotate_left
    · (intro wq hq; clear hq; go_simp; rw [words_at3]; go_simp; try with_reducible rfl)
    simp only [List.getElem_toArray, List.getElem_cons_succ, List.getElem_cons_zero, Act.put, List.setIfInBounds_toArray, List.set_cons_zero, List.set_cons_succ]
    refine wpAnyH_ready (rs := [7]) (by kernel_rfl) (by simp) ?_
    refine AllReadyH.cons rfl (fun K hK => ?_) AllReadyH.nil
    go_simp
    go_at_call 41
    refine (wsP B b acc ⟨#[115, 116, 114, 105, 110, 103]⟩ _ HI3.out (show acc.length + 6 ≤ 1000000000 from HL.out) hsz3).mono ?_
    rintro e w4 ⟨rfl, h4, b4, k4⟩
    have s4 : NdS B w #[.int .i64 3, .string nm, .int .i64 nn] w4 := s3.kept b4 k4 hne
    have H4 := Lib.hid h4
    clear h4 k4
    go_wp2_with fail
    refine hK.out _ _ s4 (fun _ => ?_)
    clear hK K
    refine wpAnyH_done (by kernel_rfl) ?_ _
    go_wp2_with fail
    go_ret
    exact ⟨rfl, H4.out, s4.1⟩
  · -- the word 4
    subst h
    go_enter Tryd.func57, Tryd.ntmps57
    go_wp2_with fail
    obtain ⟨W2, hW2⟩ : ∃ W2, w.alloc (.cells #[.int .i64 4, .string nm, .int .i64 nn] 66) = W2 := ⟨_, rfl⟩
    have hNd : NdS B w #[.int .i64 4, .string nm, .int .i64 nn] W2 := by rw [← hW2]; exact ⟨(Below.refl _ _).alloc HBW.out _, heap_alloc_new w _⟩
    have hI2 : Bldp.Is B b (Lib.byteCells acc) W2 := by rw [← hW2]; exact IsP_below HI.out ((Below.refl _ _).alloc (Nat.le_refl _) _)
    have hsz2 : B ≤ W2.heap.size := Nat.le_trans HBW.out hNd.1.size
    rw [hW2]
    clear hW2
    have HNS := Lib.hid (show ∀ wq, NdS B w #[.int .i64 4, .string nm, .int .i64 nn] wq → wq.cell? ⟨w.heap.size, 0, none⟩ = some (.int .i64 4) from fun wq hq => by rw [Lib.cell_of_heap hq.2]; rfl)
    have HND := Lib.hid hNd
    have HI2 := Lib.hid hI2
    clear hNd hI2
    have hS0 : NdS B w #[.int .i64 4, .string nm, .int .i64 nn] W2.drew := HND.out.drew
    refine wp_region_held_drew (S := fun wx => NdS B w #[.int .i64 4, .string nm, .int .i64 nn] wx) (by kernel_rfl) hS0 (fun hHeld => ?_)
    clear hHeld
    refine wpAnyH_take (i := 0) (v := ?_) rfl (by kernel_rfl) (by kernel_rfl) (by kernel_rfl) (fun _ _ _ h => h) (Or.inl ⟨by rfl, ?_⟩) (by assumption) ?_
    rotate_left
    · (intro wq hq; clear hq; go_simp; try with_reducible rfl)
    simp only [List.getElem_toArray, List.getElem_cons_zero, Act.put, List.setIfInBounds_toArray, List.set_cons_zero, List.set_cons_succ]
    refine wpAnyH_take (i := 1) (v := ?_) rfl (by kernel_rfl) (by kernel_rfl) (by kernel_rfl) (fun _ _ _ h => h) (Or.inl ⟨by rfl, ?_⟩) (by assumption) ?_
    rotate_left
    · (intro wq hq; clear hq; go_simp; try with_reducible rfl)
    simp only [List.getElem_toArray, List.getElem_cons_succ, List.getElem_cons_zero, Act.put, List.setIfInBounds_toArray, List.set_cons_zero, List.set_cons_succ]
    refine wpAnyH_take (i := 2) (v := ?_) rfl (by kernel_rfl) (by kernel_rfl) (by kernel_rfl) (fun _ _ _ h => h) (Or.inl ⟨by rfl, ?_⟩) (by assumption) ?_
    rotate_left
    · (intro wq hq; clear hq; go_simp; try with_reducible rfl)
    simp only [List.getElem_toArray, List.getElem_cons_succ, List.getElem_cons_zero, Act.put, List.setIfInBounds_toArray, List.set_cons_zero, List.set_cons_succ]
    refine wpAnyH_take (i := 4) (v := ?_) rfl (by kernel_rfl) (by kernel_rfl) (by kernel_rfl) (fun _ _ _ h => h) (Or.inl ⟨by rfl, ?_⟩) (by assumption) ?_
    rotate_left
    · (intro wq hq; clear hq; go_simp; try with_reducible rfl)
    simp only [List.getElem_toArray, List.getElem_cons_succ, List.getElem_cons_zero, Act.put, List.setIfInBounds_toArray, List.set_cons_zero, List.set_cons_succ]
    refine wpAnyH_take (i := 5) (v := ?_) rfl (by kernel_rfl) (by kernel_rfl) (by kernel_rfl) (fun _ _ _ h => h) (Or.inl ⟨by rfl, ?_⟩) (by assumption) ?_
    rotate_left
    · (intro wq hq; have hx := HNS.out wq hq; clear hq; go_simp; try with_reducible rfl)
    simp only [List.getElem_toArray, List.getElem_cons_succ, List.getElem_cons_zero, Act.put, List.setIfInBounds_toArray, List.set_cons_zero, List.set_cons_succ]
    refine wpAnyH_ready (rs := [3]) (by kernel_rfl) (by simp) ?_
    refine AllReadyH.cons rfl (fun K hK => ?_) AllReadyH.nil
    go_simp
    go_at_call 79
    refine (tyWords _).mono ?_
    rintro e w3 ⟨rfl, q3⟩
    have s3 : NdS B w #[.int .i64 4, .string nm, .int .i64 nn] w3 := HND.out.drew.since q3 hsz2
    have HI3 := Lib.hid (IsP_below (W := W2.drew) (IsP_below HI2.out (Below.refl _ _).drew) q3)
    have hsz3 : B ≤ w3.heap.size := Nat.le_trans hsz2 q3.size
    clear q3
    go_wp2_with fail
    refine hK.out _ _ s3 (fun _ => ?_)
    clear hK K
    refine wpAnyH_take (i := 6) (v := ?_) rfl (by kernel_rfl) (by kernel_rfl) (by kernel_rfl) (fun _ _ _ h => h) (Or.inl ⟨by rfl, ?_⟩) (by assumption) ?_
    rotate_left
    · (intro wq hq; clear hq; go_simp; rw [words_at4]; go_simp; try with_reducible rfl)
    simp only [List.getElem_toArray, List.getElem_cons_succ, List.getElem_cons_zero, Act.put, List.setIfInBounds_toArray, List.set_cons_zero, List.set_cons_succ]
    refine wpAnyH_ready (rs := [7]) (by kernel_rfl) (by simp) ?_
    refine AllReadyH.cons rfl (fun K hK => ?_) AllReadyH.nil
    go_simp
    go_at_call 41
    refine (wsP B b acc ⟨#[117, 110, 105, 116]⟩ _ HI3.out (show acc.length + 4 ≤ 1000000000 from HL.out) hsz3).mono ?_
    rintro e w4 ⟨rfl, h4, b4, k4⟩
    have s4 : NdS B w #[.int .i64 4, .string nm, .int .i64 nn] w4 := s3.kept b4 k4 hne
    have H4 := Lib.hid h4
    clear h4 k4
    go_wp2_with fail
    refine hK.out _ _ s4 (fun _ => ?_)
    clear hK K
    refine wpAnyH_done (by kernel_rfl) ?_ _
    go_wp2_with fail
    go_ret
    exact ⟨rfl, H4.out, s4.1⟩
-- behind the words
set_option maxHeartbeats 4000000 in
set_option maxRecDepth 100000 in
theorem nodeP (bT off cap B b : Nat) (L : List TN) (hL : L.length ≤ 1000) (hN : NamesOk L) (w0 : World) (hR : RdT w0 bT off L) (hbT : bT < B) : ∀ N, NodeOk bT off cap B b L w0 N := by
  intro N
  induction N with
  | zero => intro i t rest acc w _ h; rw [flatTT_eq] at h; simp at h
  | succ N IH =>
    intro i t rest acc w hok hsz hd hI hB hBw hl
    obtain ⟨hi, hn⟩ := head_of hd
    obtain ⟨n, ts, rfl⟩ : ∃ n ts, t = .mk n ts := by cases t with | mk n ts => exact ⟨n, ts, rfl⟩
    rw [show rootTT (.mk n ts) = n from rfl] at hn
    have hd1 : L.drop (i + 1) = flatTTs ts ++ rest := by
      rw [flatTT, List.cons_append] at hd
      rw [← List.drop_drop, hd]; rfl
    rw [okTT] at hok
    obtain ⟨hnum, hmany, hk89, hoks⟩ := hok
    have hfl : (flatTT (.mk n ts)).length = (flatTTs ts).length + 1 := by rw [flatTT, List.length_cons]
    rw [hfl] at hsz ⊢
    have htl : ts.length ≤ 50 := by have := numMany hnum; omega
    obtain ⟨x, hx, a0, a1, a2⟩ := (hR.since hbT hB).at_ hi
    have hxa : x = n := by
      rw [hx] at hn
      exact Option.some.inj hn
    rw [hxa] at a0 a1 a2
    have hi0 : (0 : Int) ≤ i := by omega
    have hi1 : (i : Int) < L.length := by omega
    have hci : ((i + 1 : Nat) : Int) = (i : Int) + 1 := by simp
    have hB2 : Below B w0 (w.alloc (.cells #[.int .i64 n.k, .string n.nm, .int .i64 n.n] 66)) := hB.trans ((Below.refl _ _).alloc hBw _)
    have hI2 : Bldp.Is B b (Lib.byteCells acc) (w.alloc (.cells #[.int .i64 n.k, .string n.nm, .int .i64 n.n] 66)) := IsP_below hI ((Below.refl _ _).alloc (Nat.le_refl _) _)
    have hb2 : Below B w (w.alloc (.cells #[.int .i64 n.k, .string n.nm, .int .i64 n.n] 66)) := (Below.refl _ _).alloc hBw _
    have hs2 : B ≤ (w.alloc (.cells #[.int .i64 n.k, .string n.nm, .int .i64 n.n] 66)).heap.size := Nat.le_trans hBw hb2.size
    clear hx hxa
    by_cases h5 : n.k = 5
    · have hm2 : manyT n = 2 := by unfold manyT; rw [if_pos h5]
      have htl2 : ts.length = 2 := by omega
      obtain ⟨a, c, rfl⟩ : ∃ a b, ts = [a, b] := by
        match ts, htl2 with
        | [a, b], _ => exact ⟨a, b, rfl⟩
      have hpt : printTT (.mk n [a, c]) = arrowTT [a, c] := by rw [printTT, if_pos h5]
      rw [hpt] at hl ⊢
      rw [okTTs, okTTs] at hoks
      have hff : (flatTTs [a, c]).length = (flatTT a).length + (flatTT c).length := by rw [flatTTs, flatTTs, flatTTs, List.append_nil, List.length_append]
      rw [hff] at hsz ⊢
      rw [flatTTs, flatTTs, flatTTs, List.append_nil, List.append_assoc] at hd1
      have hc := arrowP bT off cap B b L w0 hR hbT N IH (i + 1) a c rest acc _ hoks.1 hoks.2.1 (by omega) (by omega) hd1 hI2 hB2 hs2 hl
      rw [hci] at hc
      rw [show i + 1 + (flatTT a).length + (flatTT c).length = i + ((flatTT a).length + (flatTT c).length + 1) by omega] at hc
      have HC := Lib.hid hc
      have HB2 := Lib.hid hb2
      have q5 : (n.k == 5) = true := by rw [beq_iff_eq]; exact h5
      clear hc hb2 hB2 hI2 hs2 h5 hm2 htl2 hpt hoks hff hd1 hd hl hsz hfl hB hI hBw hR IH hn hN hnum hmany hk89 htl
      go_enter Tryd.func57, Tryd.ntmps57
      go_wp2_with fail
      refine HC.out.mono ?_
      rintro e w3 ⟨rfl, h3, b3⟩
      dsimp only
      have H3 := Lib.hid h3
      have B3 := Lib.hid (HB2.out.trans b3)
      clear h3 b3
      go_wp2_with fail
      go_ret
      exact ⟨rfl, H3.out, B3.out⟩
    · have q5 : (n.k == 5) = false := by rw [beq_eq_false_iff_ne]; exact h5
      by_cases h6 : n.k = 6
      · have hpt : printTT (.mk n ts) = 123 :: (rowTT [44, 32] ts ++ [125]) := by rw [printTT, if_neg h5, if_pos h6]
        have hnn : n.n = ts.length := by rw [hmany]; unfold manyT; rw [if_neg h5, if_pos h6]
        rw [hpt] at hl ⊢
        have hc := rowP bT off cap B b L hL hN w0 hR hbT N IH i n ts rest acc ⟨#[123]⟩ ⟨#[44, 32]⟩ ⟨#[125]⟩ ⟨by decide, by decide, by decide⟩ hi hn hnn htl hoks (by omega) hd1 _ hI2 hB2 hs2 (by
          show acc.length + 1 + (rowTT [44, 32] ts).length + 1 ≤ 1000000000
          simp only [List.length_cons, List.length_append, List.length_nil] at hl
          omega)
        rw [show i + 1 + (flatTTs ts).length = i + ((flatTTs ts).length + 1) by omega] at hc
        have hte : acc ++ (⟨#[123]⟩ : ByteArray).data.toList ++ rowTT (⟨#[44, 32]⟩ : ByteArray).data.toList ts ++ (⟨#[125]⟩ : ByteArray).data.toList = acc ++ 123 :: (rowTT [44, 32] ts ++ [125]) := by
          show acc ++ [123] ++ rowTT [44, 32] ts ++ [125] = _
          simp
        rw [hte] at hc
        have HC := Lib.hid hc
        have HB2 := Lib.hid hb2
        have q6 : (n.k == 6) = true := by rw [beq_iff_eq]; exact h6
        clear hc hb2 hB2 hI2 hs2 h5 h6 hpt hoks hd1 hd hl hsz hfl hB hI hBw hR IH hn hN hnum hmany hk89 htl hte hnn
        go_enter Tryd.func57, Tryd.ntmps57
        go_wp2_with fail
        refine HC.out.mono ?_
        rintro e w3 ⟨rfl, h3, b3⟩
        dsimp only
        have H3 := Lib.hid h3
        have B3 := Lib.hid (HB2.out.trans b3)
        clear h3 b3
        go_wp2_with fail
        go_ret
        exact ⟨rfl, H3.out, B3.out⟩
      · have q6 : (n.k == 6) = false := by rw [beq_eq_false_iff_ne]; exact h6
        by_cases h7 : n.k = 7
        · have hpt : printTT (.mk n ts) = 91 :: (rowTT [32, 124, 32] ts ++ [93]) := by rw [printTT, if_neg h5, if_neg h6, if_pos h7]
          have hnn : n.n = ts.length := by rw [hmany]; unfold manyT; rw [if_neg h5, if_neg h6, if_pos h7]
          rw [hpt] at hl ⊢
          have hc := rowP bT off cap B b L hL hN w0 hR hbT N IH i n ts rest acc ⟨#[91]⟩ ⟨#[32, 124, 32]⟩ ⟨#[93]⟩ ⟨by decide, by decide, by decide⟩ hi hn hnn htl hoks (by omega) hd1 _ hI2 hB2 hs2 (by
            show acc.length + 1 + (rowTT [32, 124, 32] ts).length + 1 ≤ 1000000000
            simp only [List.length_cons, List.length_append, List.length_nil] at hl
            omega)
          rw [show i + 1 + (flatTTs ts).length = i + ((flatTTs ts).length + 1) by omega] at hc
          have hte : acc ++ (⟨#[91]⟩ : ByteArray).data.toList ++ rowTT (⟨#[32, 124, 32]⟩ : ByteArray).data.toList ts ++ (⟨#[93]⟩ : ByteArray).data.toList = acc ++ 91 :: (rowTT [32, 124, 32] ts ++ [93]) := by
            show acc ++ [91] ++ rowTT [32, 124, 32] ts ++ [93] = _
            simp
          rw [hte] at hc
          have HC := Lib.hid hc
          have HB2 := Lib.hid hb2
          have q7 : (n.k == 7) = true := by rw [beq_iff_eq]; exact h7
          clear hc hb2 hB2 hI2 hs2 h5 h6 h7 hpt hoks hd1 hd hl hsz hfl hB hI hBw hR IH hn hN hnum hmany hk89 htl hte hnn
          go_enter Tryd.func57, Tryd.ntmps57
          go_wp2_with fail
          refine HC.out.mono ?_
          rintro e w3 ⟨rfl, h3, b3⟩
          dsimp only
          have H3 := Lib.hid h3
          have B3 := Lib.hid (HB2.out.trans b3)
          clear h3 b3
          go_wp2_with fail
          go_ret
          exact ⟨rfl, H3.out, B3.out⟩
        · have hpt : printTT (.mk n ts) = wordTx n.k := by rw [printTT, if_neg h5, if_neg h6, if_neg h7]
          have hm0 : manyT n = 0 := by unfold manyT; rw [if_neg h5, if_neg h6, if_neg h7]
          have hts : ts = [] := List.eq_nil_of_length_eq_zero (by omega)
          subst hts
          rw [hpt] at hl ⊢
          rw [flatTTs, List.length_nil, Nat.zero_add]
          have hk4 : n.k = 0 ∨ n.k = 1 ∨ n.k = 2 ∨ n.k = 3 ∨ n.k = 4 := by
            unfold NumOk at hnum
            omega
          exact nodeWord bT off cap B b L w0 hR hbT i n hi hn hk4 (by omega) acc w hI hB hBw hl

theorem print_ne (t : TT) (hok : okTT t) : printTT t ≠ [] := by
  cases t with
  | mk n ts =>
    rw [okTT] at hok
    rw [printTT]
    split
    · rename_i h5
      have hm2 : manyT n = 2 := by unfold manyT; rw [if_pos h5]
      cases ts with
      | nil => have := hok.2.1; simp at this; omega
      | cons a ts => rw [arrowTT]; simp
    · split
      · simp
      · split
        · simp
        · unfold wordTx
          split
          · simp
          · split
            · simp
            · split
              · simp
              · split <;> simp
set_option maxHeartbeats 2000000 in
set_option maxRecDepth 100000 in
/-- ty.Print: a type as text. -/
theorem PrintTy (bT off cap : Nat) (L : List TN) (hL : L.length ≤ 1000) (hN : NamesOk L) (t : TT) (hok : okTT t) (ht : flatTT t = L) (w : World) (hR : RdT w bT off L) :
    Calls Tryd.prog 37 #[.slice (some ⟨bT, off, none⟩) L.length cap] w (TextPost (printTT t) w) := by
  have hlen := print_len t (by rw [ht]; exact hN)
  rw [ht] at hlen
  have hne : printTT t ≠ [] := print_ne t hok
  have hI0 : Bldp.Is w.heap.size w.heap.size (Lib.byteCells []) (w.alloc (.cells #[.pointer none, .slice none 0 0] 94)) := Lib.IsBuilderF.of (Lib.fresh_isBuilder _ _ w)
  have hb0 : Below w.heap.size w (w.alloc (.cells #[.pointer none, .slice none 0 0] 94)) := (Below.refl _ _).alloc (Nat.le_refl _) _
  have hnd := nodeP bT off cap w.heap.size w.heap.size L hL hN w hR hR.1 L.length 0 t [] [] _ hok (by rw [ht]; exact Nat.le_refl _) (by rw [List.drop_zero, ht, List.append_nil]) hI0 hb0 hb0.size (by simp; omega)
  rw [List.nil_append] at hnd
  have HND := Lib.hid hnd
  have HB0 := Lib.hid hb0
  have HNE := Lib.hid hne
  clear hR hnd hb0 hI0 hlen ht hok hN hne
  go_enter Tryd.func37, Tryd.ntmps37
  go_wp2_with fail
  refine HND.out.mono ?_
  rintro e w2 ⟨rfl, h2, b2⟩
  dsimp only
  have H2 := Lib.hid h2
  have B2 := Lib.hid (HB0.out.trans b2)
  clear h2 b2
  go_wp2_with fail
  refine (Bldp.String w.heap.size w.heap.size _ _ H2.out HNE.out).mono ?_
  rintro e w3 ⟨rfl, b3⟩
  dsimp only
  have B3 := Lib.hid (B2.out.trans b3)
  clear b3
  go_wp2_with fail
  go_ret
  exact ⟨rfl, B3.out⟩
end Shw
end Go.Proofs.YthamcklkmchkiaaDoor
