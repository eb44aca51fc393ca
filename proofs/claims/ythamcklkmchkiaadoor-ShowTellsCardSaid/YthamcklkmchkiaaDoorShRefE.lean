/-
  DERIVED. LAYER 21 (show), the reference's, walked: an entry as text (printed by wip/gen_ent.py).
-/
import Derived.Test.YthamcklkmchkiaaDoorShEnt
namespace Go.Proofs.YthamcklkmchkiaaDoor
open Go.RowKit
namespace Shw
open Gl Glw Sh

set_option maxHeartbeats 4000000 in
set_option maxRecDepth 100000 in
theorem RefEntry (V : Go.Value) (b off cap : Nat) (cs : List CH) (hcs : cs.length ≤ 20) (hok : ∀ c ∈ cs, ChOk c) (w : World) (hR : RdC w b off cs) :
    Calls Tryd.prog 24 #[.agg #[V, .slice (some ⟨b, off, none⟩) cs.length cap]] w (TextPost (entTx cs) w) := by
  have hB0 : Below w.heap.size w (w.alloc (.cells #[V, .slice (some ⟨b, off, none⟩) cs.length cap] 46)) := (Below.refl _ _).alloc (Nat.le_refl _) _
  have hbx : (w.alloc (.cells #[V, .slice (some ⟨b, off, none⟩) cs.length cap] 46)).cell? ⟨w.heap.size, 1, none⟩ = some (.slice (some ⟨b, off, none⟩) cs.length cap) := by rw [Lib.cell_of_heap (heap_alloc_new w _)]; rfl
  have hsz0 : w.heap.size < (w.alloc (.cells #[V, .slice (some ⟨b, off, none⟩) cs.length cap] 46)).heap.size := by simp
  have HB0 := Lib.hid hB0
  have HBX0 := Lib.hid hbx
  have HSZ0 := Lib.hid hsz0
  have HR := Lib.hid (hR.since hB0)
  have HOK := Lib.hid hok
  clear hR hB0 hbx hsz0 hok
  go_enter Tryd.func24, Tryd.ntmps24
  go_wp2_with fail
  obtain ⟨W1, hW1⟩ : ∃ W1, w.alloc (.cells #[V, .slice (some ⟨b, off, none⟩) cs.length cap] 46) = W1 := ⟨_, rfl⟩
  rw [hW1] at HB0 HBX0 HSZ0 HR ⊢
  clear hW1
  go_loopw [3, 4] (fun o i wr => ∃ (k : Nat) (O : ByteArray), o = .string O ∧ i = .int .i64 k ∧ k ≤ cs.length ∧ O.data.toList = 60 :: Lib.join ((cs.take k).map chTx) [59, 32] ∧ Below W1.heap.size W1 wr) (fun _ i _ => cs.length - (intOf i).toNat)
  case atStart => exact ⟨0, ⟨#[60]⟩, rfl, rfl, Nat.zero_le _, by rw [List.take_zero, List.map_nil, Lib.join_nil], Below.refl _ _⟩
  case round =>
    obtain ⟨k, O, rfl, rfl, hk, hO, hBr⟩ := hrel
    have bx : wr.cell? ⟨w.heap.size, 1, none⟩ = some (.slice (some ⟨b, off, none⟩) cs.length cap) := (hBr.cell (p := ⟨w.heap.size, 1, none⟩) HSZ0.out).trans HBX0.out
    have hsr : w.heap.size < wr.heap.size := Nat.lt_of_lt_of_le HSZ0.out hBr.size
    have HRr := Lib.hid (HR.out.since hBr)
    have HO := Lib.hid hO
    have HBr := Lib.hid hBr
    have HXr := Lib.hid (HB0.out.trans (hBr.mono HB0.out.size))
    have hOs : O.size ≤ 2000000 := by
      have h1 := ent_len (cs.take k) (fun c hc => HOK.out c (List.mem_of_mem_take hc))
      have h5 := congrArg List.length hO
      rw [size_data, List.length_cons] at h5
      rw [List.length_take] at h1
      have : min k cs.length ≤ 20 := by omega
      omega
    clear hO hBr
    by_cases hlt : k < cs.length
    · obtain ⟨c, hc⟩ : ∃ c, cs[k]? = some c := ⟨_, List.getElem?_eq_getElem hlt⟩
      obtain ⟨x0, x1, hrt⟩ := HRr.out.2 k c hc
      have hck := HOK.out c (List.mem_of_getElem? hc)
      have hbr := HRr.out.1
      have hs1 := itoa_len c.s hck.2.2.2.1 hck.2.2.2.2
      have hs2 := print_len c.t hck.2.2.1
      have hs3 := hck.2.1
      obtain ⟨y1, hy1⟩ : ∃ y : ByteArray, (⟨(Lib.itoa c.s).toArray⟩ : ByteArray) = y := ⟨_, rfl⟩
      obtain ⟨y2, hy2⟩ : ∃ y : ByteArray, (⟨(printTT c.t).toArray⟩ : ByteArray) = y := ⟨_, rfl⟩
      have hy1l : y1.data.toList = Lib.itoa c.s := by rw [← hy1]
      have hy2l : y2.data.toList = printTT c.t := by rw [← hy2]
      have sy1 : y1.size ≤ 1000 := by rw [← size_data, hy1l]; omega
      have sy2 : y2.size ≤ 100000 := by rw [← size_data, hy2l]; omega
      have hfg := Figures c.s wr.drew hck.2.2.2.1 hck.2.2.2.2
      rw [hy1] at hfg
      have HFG := Lib.hid hfg
      have hpr : ∀ wq, Below wr.heap.size wr wq → Calls Tryd.prog 39 #[.slice (some ⟨c.b, c.off, none⟩) (flatTT c.t).length c.cap] wq (TextPost (printTT c.t) wq) := fun wq hq => Print03 c.b c.off c.cap c.t hck.1 (by omega) hck.2.2.1 wq (hrt.since hrt.1 hq)
      unfold TextPost at hpr
      rw [hy2] at hpr
      have HPR := Lib.hid hpr
      have HBX := Lib.hid (show ∀ wq, Below wr.heap.size wr wq → wq.cell? ⟨w.heap.size, 1, none⟩ = some (.slice (some ⟨b, off, none⟩) cs.length cap) from fun wq hq => (hq.cell (p := ⟨w.heap.size, 1, none⟩) hsr).trans bx)
      have HC0 := Lib.hid (show ∀ wq, Below wr.heap.size wr wq → wq.cell? ⟨b, off + k * 2, none⟩ = some (.int .i64 c.s) from fun wq hq => (hq.cell (p := ⟨b, off + k * 2, none⟩) hbr).trans x0)
      have HC1 := Lib.hid (show ∀ wq, Below wr.heap.size wr wq → wq.cell? ⟨b, off + k * 2 + 1, none⟩ = some (.slice (some ⟨c.b, c.off, none⟩) (flatTT c.t).length c.cap) from fun wq hq => (hq.cell (p := ⟨b, off + k * 2 + 1, none⟩) hbr).trans x1)
      have hS0 : Below wr.heap.size wr wr.drew := (Below.refl _ _).drew
      have htk : (cs.take (k + 1)).map chTx = (cs.take k).map chTx ++ [Lib.itoa c.s ++ (58 :: 32 :: printTT c.t)] := by
        rw [List.take_add_one, hc, List.map_append]; rfl
      have HTK := Lib.hid htk
      have HY1 := Lib.hid hy1l
      have HY2 := Lib.hid hy2l
      have hk0 : (0 : Int) ≤ k := by omega
      have hlt' : (k : Int) < cs.length := by omega
      clear hc x0 x1 hrt hck hbr hs1 hs2 hs3 hy1 hy2 hy1l hy2l hfg hpr htk
      by_cases hkz : k = 0
      · have qk : decide (0 < k) = false := by simp; omega
        have hO0 : O.data.toList = [60] := by rw [HO.out, hkz, List.take_zero, List.map_nil, Lib.join_nil]
        have htk0 : (cs.take k).map chTx = [] := by rw [hkz, List.take_zero, List.map_nil]
        have f1 : (9223372036854775807 < O.size + y1.size) = False := by simp; omega
        obtain ⟨A1, hA1⟩ : ∃ A1, O ++ y1 = A1 := ⟨_, rfl⟩
        have s1 : A1.size = O.size + y1.size := by rw [← hA1, ByteArray.size_append]
        have f2 : (9223372036854775807 < A1.size + 2) = False := by simp; omega
        obtain ⟨A2, hA2⟩ : ∃ A2, A1 ++ (⟨#[58, 32]⟩ : ByteArray) = A2 := ⟨_, rfl⟩
        have s2 : A2.size = A1.size + 2 := by rw [← hA2, ByteArray.size_append]; rfl
        have f3 : (9223372036854775807 < A2.size + y2.size) = False := by simp; omega
        obtain ⟨A4, hA4⟩ : ∃ A4, A2 ++ y2 = A4 := ⟨_, rfl⟩
        have hfin : A4.data.toList = 60 :: Lib.join ((cs.take (k + 1)).map chTx) [59, 32] := by
          rw [← hA4, app_data, ← hA2, app_data, ← hA1, app_data, HY1.out, HY2.out, hO0, HTK.out, htk0, List.nil_append, Lib.join_one]
          simp
        have HFIN := Lib.hid hfin
        clear s1 s2 hfin hO0 htk0 hkz
        go_wp2_with fail
        refine wp_region_held_drew (S := fun wx => Below wr.heap.size wr wx) (by kernel_rfl) hS0 (fun hHeld => ?_)
        clear hHeld
        refine wpAnyH_take (i := 0) (v := ?_) rfl (by kernel_rfl) (by kernel_rfl) (by kernel_rfl) (fun _ _ _ h => h) (Or.inl ⟨by rfl, ?_⟩) (by assumption) ?_
        rotate_left
        · (intro wq hq; clear hq; go_simp; try with_reducible rfl)
        simp only [List.getElem_toArray, List.getElem_cons_zero, Act.put, List.setIfInBounds_toArray, List.set_cons_zero, List.set_cons_succ]
        refine wpAnyH_take (i := 1) (v := ?_) rfl (by kernel_rfl) (by kernel_rfl) (by kernel_rfl) (fun _ _ _ h => h) (Or.inl ⟨by rfl, ?_⟩) (by assumption) ?_
        rotate_left
        · (intro wq hq; clear hq; go_simp; try with_reducible rfl)
        simp only [List.getElem_toArray, List.getElem_cons_succ, List.getElem_cons_zero, Act.put, List.setIfInBounds_toArray, List.set_cons_zero, List.set_cons_succ]
        refine wpAnyH_take (i := 2) (v := ?_) rfl (by kernel_rfl) (by kernel_rfl) (by kernel_rfl) (fun _ _ _ h => h) (Or.inl ⟨by rfl, ?_⟩) (by assumption) ?_
        rotate_left
        · (intro wq hq; have hx := HBX.out wq hq; clear hq; go_simp; try with_reducible rfl)
        simp only [List.getElem_toArray, List.getElem_cons_succ, List.getElem_cons_zero, Act.put, List.setIfInBounds_toArray, List.set_cons_zero, List.set_cons_succ]
        refine wpAnyH_take (i := 3) (v := ?_) rfl (by kernel_rfl) (by kernel_rfl) (by kernel_rfl) (fun _ _ _ h => h) (Or.inl ⟨by rfl, ?_⟩) (by assumption) ?_
        rotate_left
        · (intro wq hq; clear hq; go_simp; try with_reducible rfl)
        simp only [List.getElem_toArray, List.getElem_cons_succ, List.getElem_cons_zero, Act.put, List.setIfInBounds_toArray, List.set_cons_zero, List.set_cons_succ]
        refine wpAnyH_take (i := 4) (v := ?_) rfl (by kernel_rfl) (by kernel_rfl) (by kernel_rfl) (fun _ _ _ h => h) (Or.inl ⟨by rfl, ?_⟩) (by assumption) ?_
        rotate_left
        · (intro wq hq; clear hq; go_simp; try with_reducible rfl)
        simp only [List.getElem_toArray, List.getElem_cons_succ, List.getElem_cons_zero, Act.put, List.setIfInBounds_toArray, List.set_cons_zero, List.set_cons_succ]
        refine wpAnyH_take (i := 5) (v := ?_) rfl (by kernel_rfl) (by kernel_rfl) (by kernel_rfl) (fun _ _ _ h => h) (Or.inl ⟨by rfl, ?_⟩) (by assumption) ?_
        rotate_left
        · (intro wq hq; clear hq; go_simp; try with_reducible rfl)
        simp only [List.getElem_toArray, List.getElem_cons_succ, List.getElem_cons_zero, Act.put, List.setIfInBounds_toArray, List.set_cons_zero, List.set_cons_succ]
        refine wpAnyH_take (i := 6) (v := ?_) rfl (by kernel_rfl) (by kernel_rfl) (by kernel_rfl) (fun _ _ _ h => h) (Or.inl ⟨by rfl, ?_⟩) (by assumption) ?_
        rotate_left
        · (intro wq hq; have hx := HC0.out wq hq; clear hq; go_simp; try with_reducible rfl)
        simp only [List.getElem_toArray, List.getElem_cons_succ, List.getElem_cons_zero, Act.put, List.setIfInBounds_toArray, List.set_cons_zero, List.set_cons_succ]
        refine wpAnyH_take (i := 10) (v := ?_) rfl (by kernel_rfl) (by kernel_rfl) (by kernel_rfl) (fun _ _ _ h => h) (Or.inl ⟨by rfl, ?_⟩) (by assumption) ?_
        rotate_left
        · (intro wq hq; clear hq; go_simp; try with_reducible rfl)
        simp only [List.getElem_toArray, List.getElem_cons_succ, List.getElem_cons_zero, Act.put, List.setIfInBounds_toArray, List.set_cons_zero, List.set_cons_succ]
        refine wpAnyH_take (i := 11) (v := ?_) rfl (by kernel_rfl) (by kernel_rfl) (by kernel_rfl) (fun _ _ _ h => h) (Or.inl ⟨by rfl, ?_⟩) (by assumption) ?_
        rotate_left
        · (intro wq hq; have hx := HBX.out wq hq; clear hq; go_simp; try with_reducible rfl)
        simp only [List.getElem_toArray, List.getElem_cons_succ, List.getElem_cons_zero, Act.put, List.setIfInBounds_toArray, List.set_cons_zero, List.set_cons_succ]
        refine wpAnyH_take (i := 12) (v := ?_) rfl (by kernel_rfl) (by kernel_rfl) (by kernel_rfl) (fun _ _ _ h => h) (Or.inl ⟨by rfl, ?_⟩) (by assumption) ?_
        rotate_left
        · (intro wq hq; clear hq; go_simp; try with_reducible rfl)
        simp only [List.getElem_toArray, List.getElem_cons_succ, List.getElem_cons_zero, Act.put, List.setIfInBounds_toArray, List.set_cons_zero, List.set_cons_succ]
        refine wpAnyH_take (i := 13) (v := ?_) rfl (by kernel_rfl) (by kernel_rfl) (by kernel_rfl) (fun _ _ _ h => h) (Or.inl ⟨by rfl, ?_⟩) (by assumption) ?_
        rotate_left
        · (intro wq hq; clear hq; go_simp; try with_reducible rfl)
        simp only [List.getElem_toArray, List.getElem_cons_succ, List.getElem_cons_zero, Act.put, List.setIfInBounds_toArray, List.set_cons_zero, List.set_cons_succ]
        refine wpAnyH_take (i := 14) (v := ?_) rfl (by kernel_rfl) (by kernel_rfl) (by kernel_rfl) (fun _ _ _ h => h) (Or.inl ⟨by rfl, ?_⟩) (by assumption) ?_
        rotate_left
        · (intro wq hq; clear hq; go_simp; try with_reducible rfl)
        simp only [List.getElem_toArray, List.getElem_cons_succ, List.getElem_cons_zero, Act.put, List.setIfInBounds_toArray, List.set_cons_zero, List.set_cons_succ]
        refine wpAnyH_take (i := 15) (v := ?_) rfl (by kernel_rfl) (by kernel_rfl) (by kernel_rfl) (fun _ _ _ h => h) (Or.inl ⟨by rfl, ?_⟩) (by assumption) ?_
        rotate_left
        · (intro wq hq; have hx := HC1.out wq hq; clear hq; go_simp; try with_reducible rfl)
        simp only [List.getElem_toArray, List.getElem_cons_succ, List.getElem_cons_zero, Act.put, List.setIfInBounds_toArray, List.set_cons_zero, List.set_cons_succ]
        refine wpAnyH_ready (rs := [7]) (by kernel_rfl) (by simp) ?_
        refine AllReadyH.cons rfl (fun K hK => ?_) AllReadyH.nil
        go_simp
        go_at_call 29
        refine HFG.out.mono ?_
        rintro e w5 ⟨rfl, q5'⟩
        have s5 : Below wr.heap.size wr w5 := hS0.trans (q5'.mono (show wr.heap.size ≤ wr.drew.heap.size from Nat.le_refl _))
        clear q5'
        go_wp2_with fail
        refine hK.out _ _ s5 (fun _ => ?_)
        clear hK K
        refine wpAnyH_take (i := 8) (v := ?_) rfl (by kernel_rfl) (by kernel_rfl) (by kernel_rfl) (fun _ _ _ h => h) (Or.inl ⟨by rfl, ?_⟩) (by assumption) ?_
        rotate_left
        · (intro wq hq; clear hq; go_simp; try with_reducible rfl)
        simp only [List.getElem_toArray, List.getElem_cons_succ, List.getElem_cons_zero, Act.put, List.setIfInBounds_toArray, List.set_cons_zero, List.set_cons_succ]
        refine wpAnyH_take (i := 9) (v := ?_) rfl (by kernel_rfl) (by kernel_rfl) (by kernel_rfl) (fun _ _ _ h => h) (Or.inl ⟨by rfl, ?_⟩) (by assumption) ?_
        rotate_left
        · (intro wq hq; clear hq; go_simp; try with_reducible rfl)
        simp only [List.getElem_toArray, List.getElem_cons_succ, List.getElem_cons_zero, Act.put, List.setIfInBounds_toArray, List.set_cons_zero, List.set_cons_succ]
        refine wpAnyH_ready (rs := [16]) (by kernel_rfl) (by simp) ?_
        refine AllReadyH.cons rfl (fun K hK => ?_) AllReadyH.nil
        go_simp
        go_at_call 39
        refine (HPR.out w5 s5).mono ?_
        rintro e w6 ⟨rfl, q6'⟩
        have s6 : Below wr.heap.size wr w6 := s5.trans (q6'.mono s5.size)
        clear q6' s5
        go_wp2_with fail
        refine hK.out _ _ s6 (fun _ => ?_)
        clear hK K
        refine wpAnyH_take (i := 17) (v := ?_) rfl (by kernel_rfl) (by kernel_rfl) (by kernel_rfl) (fun _ _ _ h => h) (Or.inl ⟨by rfl, ?_⟩) (by assumption) ?_
        rotate_left
        · (intro wq hq; clear hq; go_simp; try with_reducible rfl)
        simp only [List.getElem_toArray, List.getElem_cons_succ, List.getElem_cons_zero, Act.put, List.setIfInBounds_toArray, List.set_cons_zero, List.set_cons_succ]
        refine wpAnyH_take (i := 18) (v := ?_) rfl (by kernel_rfl) (by kernel_rfl) (by kernel_rfl) (fun _ _ _ h => h) (Or.inl ⟨by rfl, ?_⟩) (by assumption) ?_
        rotate_left
        · (intro wq hq; clear hq; go_simp; try with_reducible rfl)
        simp only [List.getElem_toArray, List.getElem_cons_succ, List.getElem_cons_zero, Act.put, List.setIfInBounds_toArray, List.set_cons_zero, List.set_cons_succ]
        refine wpAnyH_done (by kernel_rfl) ?_ _
        go_wp2_with fail
        exact ⟨⟨k + 1, A4, rfl, by simp, by omega, HFIN.out, HBr.out.trans (s6.mono HBr.out.size)⟩, by simp [intOf]; omega⟩
      · have qk : decide (0 < k) = true := by simp; omega
        have htne : (cs.take k).map chTx ≠ [] := by
          intro e
          have := congrArg List.length e
          rw [List.length_map, List.length_take, List.length_nil] at this
          omega
        have f0 : (9223372036854775807 < O.size + 2) = False := by simp; omega
        obtain ⟨A0, hA0⟩ : ∃ A0, O ++ (⟨#[59, 32]⟩ : ByteArray) = A0 := ⟨_, rfl⟩
        have s0 : A0.size = O.size + 2 := by rw [← hA0, ByteArray.size_append]; rfl
        have f1 : (9223372036854775807 < A0.size + y1.size) = False := by simp; omega
        obtain ⟨A1, hA1⟩ : ∃ A1, A0 ++ y1 = A1 := ⟨_, rfl⟩
        have s1 : A1.size = A0.size + y1.size := by rw [← hA1, ByteArray.size_append]
        have f2 : (9223372036854775807 < A1.size + 2) = False := by simp; omega
        obtain ⟨A2, hA2⟩ : ∃ A2, A1 ++ (⟨#[58, 32]⟩ : ByteArray) = A2 := ⟨_, rfl⟩
        have s2 : A2.size = A1.size + 2 := by rw [← hA2, ByteArray.size_append]; rfl
        have f3 : (9223372036854775807 < A2.size + y2.size) = False := by simp; omega
        obtain ⟨A4, hA4⟩ : ∃ A4, A2 ++ y2 = A4 := ⟨_, rfl⟩
        have hfin : A4.data.toList = 60 :: Lib.join ((cs.take (k + 1)).map chTx) [59, 32] := by
          rw [← hA4, app_data, ← hA2, app_data, ← hA1, app_data, ← hA0, app_data, HY1.out, HY2.out, HO.out, HTK.out, join_snoc _ _ _ htne]
          simp
        have HFIN := Lib.hid hfin
        clear s0 s1 s2 hfin htne hkz
        go_wp2_with fail
        refine wp_region_held_drew (S := fun wx => Below wr.heap.size wr wx) (by kernel_rfl) hS0 (fun hHeld => ?_)
        clear hHeld
        refine wpAnyH_take (i := 0) (v := ?_) rfl (by kernel_rfl) (by kernel_rfl) (by kernel_rfl) (fun _ _ _ h => h) (Or.inl ⟨by rfl, ?_⟩) (by assumption) ?_
        rotate_left
        · (intro wq hq; clear hq; go_simp; try with_reducible rfl)
        simp only [List.getElem_toArray, List.getElem_cons_zero, Act.put, List.setIfInBounds_toArray, List.set_cons_zero, List.set_cons_succ]
        refine wpAnyH_take (i := 1) (v := ?_) rfl (by kernel_rfl) (by kernel_rfl) (by kernel_rfl) (fun _ _ _ h => h) (Or.inl ⟨by rfl, ?_⟩) (by assumption) ?_
        rotate_left
        · (intro wq hq; clear hq; go_simp; try with_reducible rfl)
        simp only [List.getElem_toArray, List.getElem_cons_succ, List.getElem_cons_zero, Act.put, List.setIfInBounds_toArray, List.set_cons_zero, List.set_cons_succ]
        refine wpAnyH_take (i := 2) (v := ?_) rfl (by kernel_rfl) (by kernel_rfl) (by kernel_rfl) (fun _ _ _ h => h) (Or.inl ⟨by rfl, ?_⟩) (by assumption) ?_
        rotate_left
        · (intro wq hq; have hx := HBX.out wq hq; clear hq; go_simp; try with_reducible rfl)
        simp only [List.getElem_toArray, List.getElem_cons_succ, List.getElem_cons_zero, Act.put, List.setIfInBounds_toArray, List.set_cons_zero, List.set_cons_succ]
        refine wpAnyH_take (i := 3) (v := ?_) rfl (by kernel_rfl) (by kernel_rfl) (by kernel_rfl) (fun _ _ _ h => h) (Or.inl ⟨by rfl, ?_⟩) (by assumption) ?_
        rotate_left
        · (intro wq hq; clear hq; go_simp; try with_reducible rfl)
        simp only [List.getElem_toArray, List.getElem_cons_succ, List.getElem_cons_zero, Act.put, List.setIfInBounds_toArray, List.set_cons_zero, List.set_cons_succ]
        refine wpAnyH_take (i := 4) (v := ?_) rfl (by kernel_rfl) (by kernel_rfl) (by kernel_rfl) (fun _ _ _ h => h) (Or.inl ⟨by rfl, ?_⟩) (by assumption) ?_
        rotate_left
        · (intro wq hq; clear hq; go_simp; try with_reducible rfl)
        simp only [List.getElem_toArray, List.getElem_cons_succ, List.getElem_cons_zero, Act.put, List.setIfInBounds_toArray, List.set_cons_zero, List.set_cons_succ]
        refine wpAnyH_take (i := 5) (v := ?_) rfl (by kernel_rfl) (by kernel_rfl) (by kernel_rfl) (fun _ _ _ h => h) (Or.inl ⟨by rfl, ?_⟩) (by assumption) ?_
        rotate_left
        · (intro wq hq; clear hq; go_simp; try with_reducible rfl)
        simp only [List.getElem_toArray, List.getElem_cons_succ, List.getElem_cons_zero, Act.put, List.setIfInBounds_toArray, List.set_cons_zero, List.set_cons_succ]
        refine wpAnyH_take (i := 6) (v := ?_) rfl (by kernel_rfl) (by kernel_rfl) (by kernel_rfl) (fun _ _ _ h => h) (Or.inl ⟨by rfl, ?_⟩) (by assumption) ?_
        rotate_left
        · (intro wq hq; have hx := HC0.out wq hq; clear hq; go_simp; try with_reducible rfl)
        simp only [List.getElem_toArray, List.getElem_cons_succ, List.getElem_cons_zero, Act.put, List.setIfInBounds_toArray, List.set_cons_zero, List.set_cons_succ]
        refine wpAnyH_take (i := 10) (v := ?_) rfl (by kernel_rfl) (by kernel_rfl) (by kernel_rfl) (fun _ _ _ h => h) (Or.inl ⟨by rfl, ?_⟩) (by assumption) ?_
        rotate_left
        · (intro wq hq; clear hq; go_simp; try with_reducible rfl)
        simp only [List.getElem_toArray, List.getElem_cons_succ, List.getElem_cons_zero, Act.put, List.setIfInBounds_toArray, List.set_cons_zero, List.set_cons_succ]
        refine wpAnyH_take (i := 11) (v := ?_) rfl (by kernel_rfl) (by kernel_rfl) (by kernel_rfl) (fun _ _ _ h => h) (Or.inl ⟨by rfl, ?_⟩) (by assumption) ?_
        rotate_left
        · (intro wq hq; have hx := HBX.out wq hq; clear hq; go_simp; try with_reducible rfl)
        simp only [List.getElem_toArray, List.getElem_cons_succ, List.getElem_cons_zero, Act.put, List.setIfInBounds_toArray, List.set_cons_zero, List.set_cons_succ]
        refine wpAnyH_take (i := 12) (v := ?_) rfl (by kernel_rfl) (by kernel_rfl) (by kernel_rfl) (fun _ _ _ h => h) (Or.inl ⟨by rfl, ?_⟩) (by assumption) ?_
        rotate_left
        · (intro wq hq; clear hq; go_simp; try with_reducible rfl)
        simp only [List.getElem_toArray, List.getElem_cons_succ, List.getElem_cons_zero, Act.put, List.setIfInBounds_toArray, List.set_cons_zero, List.set_cons_succ]
        refine wpAnyH_take (i := 13) (v := ?_) rfl (by kernel_rfl) (by kernel_rfl) (by kernel_rfl) (fun _ _ _ h => h) (Or.inl ⟨by rfl, ?_⟩) (by assumption) ?_
        rotate_left
        · (intro wq hq; clear hq; go_simp; try with_reducible rfl)
        simp only [List.getElem_toArray, List.getElem_cons_succ, List.getElem_cons_zero, Act.put, List.setIfInBounds_toArray, List.set_cons_zero, List.set_cons_succ]
        refine wpAnyH_take (i := 14) (v := ?_) rfl (by kernel_rfl) (by kernel_rfl) (by kernel_rfl) (fun _ _ _ h => h) (Or.inl ⟨by rfl, ?_⟩) (by assumption) ?_
        rotate_left
        · (intro wq hq; clear hq; go_simp; try with_reducible rfl)
        simp only [List.getElem_toArray, List.getElem_cons_succ, List.getElem_cons_zero, Act.put, List.setIfInBounds_toArray, List.set_cons_zero, List.set_cons_succ]
        refine wpAnyH_take (i := 15) (v := ?_) rfl (by kernel_rfl) (by kernel_rfl) (by kernel_rfl) (fun _ _ _ h => h) (Or.inl ⟨by rfl, ?_⟩) (by assumption) ?_
        rotate_left
        · (intro wq hq; have hx := HC1.out wq hq; clear hq; go_simp; try with_reducible rfl)
        simp only [List.getElem_toArray, List.getElem_cons_succ, List.getElem_cons_zero, Act.put, List.setIfInBounds_toArray, List.set_cons_zero, List.set_cons_succ]
        refine wpAnyH_ready (rs := [7]) (by kernel_rfl) (by simp) ?_
        refine AllReadyH.cons rfl (fun K hK => ?_) AllReadyH.nil
        go_simp
        go_at_call 29
        refine HFG.out.mono ?_
        rintro e w5 ⟨rfl, q5'⟩
        have s5 : Below wr.heap.size wr w5 := hS0.trans (q5'.mono (show wr.heap.size ≤ wr.drew.heap.size from Nat.le_refl _))
        clear q5'
        go_wp2_with fail
        refine hK.out _ _ s5 (fun _ => ?_)
        clear hK K
        refine wpAnyH_take (i := 8) (v := ?_) rfl (by kernel_rfl) (by kernel_rfl) (by kernel_rfl) (fun _ _ _ h => h) (Or.inl ⟨by rfl, ?_⟩) (by assumption) ?_
        rotate_left
        · (intro wq hq; clear hq; go_simp; try with_reducible rfl)
        simp only [List.getElem_toArray, List.getElem_cons_succ, List.getElem_cons_zero, Act.put, List.setIfInBounds_toArray, List.set_cons_zero, List.set_cons_succ]
        refine wpAnyH_take (i := 9) (v := ?_) rfl (by kernel_rfl) (by kernel_rfl) (by kernel_rfl) (fun _ _ _ h => h) (Or.inl ⟨by rfl, ?_⟩) (by assumption) ?_
        rotate_left
        · (intro wq hq; clear hq; go_simp; try with_reducible rfl)
        simp only [List.getElem_toArray, List.getElem_cons_succ, List.getElem_cons_zero, Act.put, List.setIfInBounds_toArray, List.set_cons_zero, List.set_cons_succ]
        refine wpAnyH_ready (rs := [16]) (by kernel_rfl) (by simp) ?_
        refine AllReadyH.cons rfl (fun K hK => ?_) AllReadyH.nil
        go_simp
        go_at_call 39
        refine (HPR.out w5 s5).mono ?_
        rintro e w6 ⟨rfl, q6'⟩
        have s6 : Below wr.heap.size wr w6 := s5.trans (q6'.mono s5.size)
        clear q6' s5
        go_wp2_with fail
        refine hK.out _ _ s6 (fun _ => ?_)
        clear hK K
        refine wpAnyH_take (i := 17) (v := ?_) rfl (by kernel_rfl) (by kernel_rfl) (by kernel_rfl) (fun _ _ _ h => h) (Or.inl ⟨by rfl, ?_⟩) (by assumption) ?_
        rotate_left
        · (intro wq hq; clear hq; go_simp; try with_reducible rfl)
        simp only [List.getElem_toArray, List.getElem_cons_succ, List.getElem_cons_zero, Act.put, List.setIfInBounds_toArray, List.set_cons_zero, List.set_cons_succ]
        refine wpAnyH_take (i := 18) (v := ?_) rfl (by kernel_rfl) (by kernel_rfl) (by kernel_rfl) (fun _ _ _ h => h) (Or.inl ⟨by rfl, ?_⟩) (by assumption) ?_
        rotate_left
        · (intro wq hq; clear hq; go_simp; try with_reducible rfl)
        simp only [List.getElem_toArray, List.getElem_cons_succ, List.getElem_cons_zero, Act.put, List.setIfInBounds_toArray, List.set_cons_zero, List.set_cons_succ]
        refine wpAnyH_done (by kernel_rfl) ?_ _
        go_wp2_with fail
        exact ⟨⟨k + 1, A4, rfl, by simp, by omega, HFIN.out, HBr.out.trans (s6.mono HBr.out.size)⟩, by simp [intOf]; omega⟩
    · obtain rfl : k = cs.length := by omega
      have f1 : (9223372036854775807 < O.size + 1) = False := by simp; omega
      have hfin : (O ++ (⟨#[62]⟩ : ByteArray)).data.toList = entTx cs := by
        rw [app_data, HO.out, List.take_length]; rfl
      have HFIN := Lib.hid hfin
      clear hfin
      go_wp2_with fail
      go_ret
      exact text_post HFIN.out HXr.out
end Shw
end Go.Proofs.YthamcklkmchkiaaDoor
