/-
  DERIVED. LAYER 21 (show), walked: an entry as text (printed by wip/gen_entw.py).
-/
import Derived.Test.YthamcklkmchkiaaDoorShEnt
import Derived.Test.YthamcklkmchkiaaDoorShStrs
import Derived.Test.YthamcklkmchkiaaDoorShWrong
namespace Go.Proofs.YthamcklkmchkiaaDoor
open Go.RowKit
namespace Shw
open Gl Glw Sh
/-- The choice's own copy stands. -/
def HeS (W1 : World) (k : Nat) (ob : Obj) (wx : World) : Prop := Below W1.heap.size W1 wx ∧ wx.heap[k]? = some ob
theorem HeS.since {W1 : World} {k : Nat} {ob : Obj} {wx wy : World} (h : HeS W1 k ob wx) (hb : Below wx.heap.size wx wy) : HeS W1 k ob wy :=
  ⟨h.1.trans (hb.mono h.1.size), (hb.block _ (Array.getElem?_eq_some_iff.1 h.2).1).trans h.2⟩

theorem wp_append {P : Program} {o : Oper} {a : Act} {w : World} {next : Act → World → Prop} {Q : Exit → Act → World → Prop} (s x : Operand) (t : TypeId) (ho : o.op = .call { callee := .builtin .append, args := #[s, x], argTypes := #[t, t] })
    (v' : Go.Value) (w' : World) (hr : (Builtin.append_ #[t, t] o.type #[a.eval s, a.eval x]).run P w = .ok v' w') (h : next (a.put o.dst v') w') : Oper.wp P o a w next Q := by
  unfold Oper.wp execOp
  simp only [ho, resolve, invoke, builtin, Sem.run_bind, Sem.run_pure, Result.andThen_ok, List.map_toArray, List.map_cons, List.map_nil, hr]
  exact h

set_option maxHeartbeats 4000000 in
set_option maxRecDepth 100000 in
theorem EntryW (V : Go.Value) (b off cap : Nat) (cs : List CH) (hcs : cs.length ≤ 20) (hok : ∀ c ∈ cs, ChOk c) (w : World) (hE : Env w) (hR : RdC w b off cs) :
    Calls Tryd.prog 23 #[.agg #[V, .slice (some ⟨b, off, none⟩) cs.length cap]] w (TextPost (entTx cs) w) := by
  have hB0 : Below w.heap.size w (w.alloc (.cells #[V, .slice (some ⟨b, off, none⟩) cs.length cap] 46)) := (Below.refl _ _).alloc (Nat.le_refl _) _
  have HB0 := Lib.hid hB0
  have HR := Lib.hid (hR.since hB0)
  have HE := Lib.hid (hE.below hB0)
  have HOK := Lib.hid hok
  obtain ⟨i0, hi, hz0, hz1, hz2⟩ := info_parts infoStr
  have HI := Lib.hid hi
  have HZ0 := Lib.hid hz0
  have HZ1 := Lib.hid hz1
  have HZ2 := Lib.hid hz2
  clear hR hB0 hE hok hi hz0 hz1 hz2
  go_enter Tryd.func23, Tryd.ntmps23
  go_wp2_with fail
  obtain ⟨W1, hW1⟩ : ∃ W1, w.alloc (.cells #[V, .slice (some ⟨b, off, none⟩) cs.length cap] 46) = W1 := ⟨_, rfl⟩
  rw [hW1] at HB0 HE HR ⊢
  clear hW1
  go_loopw [3, 9] (fun v i wr => ∃ (k : Nat) (done : List ByteArray), i = .int .i64 k ∧ k ≤ cs.length ∧ done.length = k ∧ Strs wr W1.heap.size v done ∧ done.map (·.data.toList) = (cs.take k).map chTx ∧ Below W1.heap.size W1 wr) (fun _ i _ => cs.length - (intOf i).toNat)
  case atStart => exact ⟨0, [], rfl, Nat.zero_le _, rfl, Strs.nil_ _ _, rfl, Below.refl _ _⟩
  case round =>
    obtain ⟨k, done, rfl, hk, hdn, hT, hdm, hBr⟩ := hrel
    have HT := Lib.hid hT
    have HDM := Lib.hid hdm
    have HBr := Lib.hid hBr
    have HRr := Lib.hid (HR.out.since hBr)
    clear hT hdm hBr
    by_cases hlt : k < cs.length
    · obtain ⟨c, hc⟩ : ∃ c, cs[k]? = some c := ⟨_, List.getElem?_eq_getElem hlt⟩
      obtain ⟨x0, x1, hrt⟩ := HRr.out.2 k c hc
      have hck := HOK.out c (List.mem_of_getElem? hc)
      have htk : (cs.take (k + 1)).map chTx = (cs.take k).map chTx ++ [chTx c] := by
        rw [List.take_add_one, hc, List.map_append]; rfl
      have HTK := Lib.hid htk
      have HCK := Lib.hid hck
      have HRT := Lib.hid hrt
      have hk0 : (0 : Int) ≤ k := by omega
      have hlt' : (k : Int) < cs.length := by omega
      clear hc hck htk hrt
      go_wp2_with fail
      obtain ⟨W4, hW4⟩ : ∃ W4, wr.alloc (.cells #[.int .i64 c.s, .slice (some ⟨c.b, c.off, none⟩) (flatTT c.t).length c.cap] 49) = W4 := ⟨_, rfl⟩
      have hal : Below wr.heap.size wr W4 := by rw [← hW4]; exact (Below.refl _ _).alloc (Nat.le_refl _) _
      have hS4 : HeS W1 wr.heap.size (.cells #[.int .i64 c.s, .slice (some ⟨c.b, c.off, none⟩) (flatTT c.t).length c.cap] 49 (0, 0)) W4 := ⟨HBr.out.trans (hal.mono HBr.out.size), by rw [← hW4]; exact heap_alloc_new wr _⟩
      have hS0 : HeS W1 wr.heap.size (.cells #[.int .i64 c.s, .slice (some ⟨c.b, c.off, none⟩) (flatTT c.t).length c.cap] 49 (0, 0)) W4.drew := hS4.since (Below.refl _ _).drew
      have hd4 : Below wr.heap.size wr W4.drew := hal.drew
      rw [hW4]
      clear hW4 hS4 hal
      have HC0 := Lib.hid (show ∀ wq, HeS W1 wr.heap.size (.cells #[.int .i64 c.s, .slice (some ⟨c.b, c.off, none⟩) (flatTT c.t).length c.cap] 49 (0, 0)) wq → wq.cell? ⟨wr.heap.size, 0, none⟩ = some (.int .i64 c.s) from fun wq hq => by rw [Lib.cell_of_heap hq.2]; rfl)
      have HC1 := Lib.hid (show ∀ wq, HeS W1 wr.heap.size (.cells #[.int .i64 c.s, .slice (some ⟨c.b, c.off, none⟩) (flatTT c.t).length c.cap] 49 (0, 0)) wq → wq.cell? ⟨wr.heap.size, 1, none⟩ = some (.slice (some ⟨c.b, c.off, none⟩) (flatTT c.t).length c.cap) from fun wq hq => by rw [Lib.cell_of_heap hq.2]; rfl)
      have HD4 := Lib.hid hd4
      have T4 := Lib.hid (HT.out.below hd4)
      clear hd4 x0 x1
      refine wp_region_held_drew (S := fun wx => HeS W1 wr.heap.size (.cells #[.int .i64 c.s, .slice (some ⟨c.b, c.off, none⟩) (flatTT c.t).length c.cap] 49 (0, 0)) wx) (by kernel_rfl) hS0 (fun hHeld => ?_)
      clear hHeld
      refine wpAnyH_take (i := 0) (v := ?_) rfl (by kernel_rfl) (by kernel_rfl) (by kernel_rfl) (fun _ _ _ h => h) (Or.inl ⟨by rfl, ?_⟩) (by assumption) ?_
      rotate_left
      · (intro wq hq; clear hq; go_simp; try with_reducible rfl)
      simp only [List.getElem_toArray, List.getElem_cons_zero, Act.put, List.setIfInBounds_toArray, List.set_cons_zero, List.set_cons_succ]
      refine wpAnyH_take (i := 1) (v := ?_) rfl (by kernel_rfl) (by kernel_rfl) (by kernel_rfl) (fun _ _ _ h => h) (Or.inl ⟨by rfl, ?_⟩) (by assumption) ?_
      rotate_left
      · (intro wq hq; clear hq; go_simp; try with_reducible rfl)
      simp only [List.getElem_toArray, List.getElem_cons_succ, List.getElem_cons_zero, Act.put, List.setIfInBounds_toArray, List.set_cons_zero, List.set_cons_succ]
      refine wpAnyH_take (i := 2) (v := ?_) rfl (by kernel_rfl) (by kernel_rfl) (by kernel_rfl) (fun _ _ _ h => h) (Or.inl ⟨by rfl, ?_⟩) (by assumption) ?_
      rotate_left
      · (intro wq hq; have hx := HC0.out wq hq; clear hq; go_simp; try with_reducible rfl)
      simp only [List.getElem_toArray, List.getElem_cons_succ, List.getElem_cons_zero, Act.put, List.setIfInBounds_toArray, List.set_cons_zero, List.set_cons_succ]
      refine wpAnyH_take (i := 3) (v := ?_) rfl (by kernel_rfl) (by kernel_rfl) (by kernel_rfl) (fun _ _ _ h => h) (Or.inl ⟨by rfl, ?_⟩) (by assumption) ?_
      rotate_left
      · (intro wq hq; clear hq; go_simp; try with_reducible rfl)
      simp only [List.getElem_toArray, List.getElem_cons_succ, List.getElem_cons_zero, Act.put, List.setIfInBounds_toArray, List.set_cons_zero, List.set_cons_succ]
      refine wpAnyH_take (i := 4) (v := ?_) rfl (by kernel_rfl) (by kernel_rfl) (by kernel_rfl) (fun _ _ _ h => h) (Or.inl ⟨by rfl, ?_⟩) (by assumption) ?_
      rotate_left
      · (intro wq hq; clear hq; go_simp; try with_reducible rfl)
      simp only [List.getElem_toArray, List.getElem_cons_succ, List.getElem_cons_zero, Act.put, List.setIfInBounds_toArray, List.set_cons_zero, List.set_cons_succ]
      refine wpAnyH_take (i := 5) (v := ?_) rfl (by kernel_rfl) (by kernel_rfl) (by kernel_rfl) (fun _ _ _ h => h) (Or.inl ⟨by rfl, ?_⟩) (by assumption) ?_
      rotate_left
      · (intro wq hq; clear hq; go_simp; try with_reducible rfl)
      simp only [List.getElem_toArray, List.getElem_cons_succ, List.getElem_cons_zero, Act.put, List.setIfInBounds_toArray, List.set_cons_zero, List.set_cons_succ]
      refine wpAnyH_take (i := 6) (v := ?_) rfl (by kernel_rfl) (by kernel_rfl) (by kernel_rfl) (fun _ _ _ h => h) (Or.inl ⟨by rfl, ?_⟩) (by assumption) ?_
      rotate_left
      · (intro wq hq; have hx := HC1.out wq hq; clear hq; go_simp; try with_reducible rfl)
      simp only [List.getElem_toArray, List.getElem_cons_succ, List.getElem_cons_zero, Act.put, List.setIfInBounds_toArray, List.set_cons_zero, List.set_cons_succ]
      refine wpAnyH_ready (rs := [7]) (by kernel_rfl) (by simp) ?_
      refine AllReadyH.cons rfl (fun K hK => ?_) AllReadyH.nil
      go_simp
      go_at_call 37
      refine (PrintTy c.b c.off c.cap (flatTT c.t) (by have := HCK.out.2.1; omega) HCK.out.2.2.1 c.t HCK.out.1 rfl _ (HRT.out.since HRT.out.1 (HD4.out))).mono ?_
      rintro e w5 ⟨rfl, q5⟩
      have s5 : HeS W1 wr.heap.size (.cells #[.int .i64 c.s, .slice (some ⟨c.b, c.off, none⟩) (flatTT c.t).length c.cap] 49 (0, 0)) w5 := hS0.since q5
      have T5 := Lib.hid (T4.out.below q5)
      clear q5
      go_wp2_with fail
      refine hK.out _ _ s5 (fun _ => ?_)
      clear hK K
      refine wpAnyH_take (i := 8) (v := ?_) rfl (by kernel_rfl) (by kernel_rfl) (by kernel_rfl) (fun _ _ _ h => h) (Or.inl ⟨by rfl, ?_⟩) (by assumption) ?_
      rotate_left
      · (intro wq hq; clear hq; go_simp; try with_reducible rfl)
      simp only [List.getElem_toArray, List.getElem_cons_succ, List.getElem_cons_zero, Act.put, List.setIfInBounds_toArray, List.set_cons_zero, List.set_cons_succ]
      refine wpAnyH_ready (rs := [9]) (by kernel_rfl) (by simp) ?_
      refine AllReadyH.cons rfl (fun K hK => ?_) AllReadyH.nil
      go_simp
      go_wp2_with fail
      have al5 : Below w5.heap.size w5 (w5.alloc (.cells #[itemV (iN c.s), itemV (iS ⟨#[58, 32]⟩), itemV (iS ⟨(printTT c.t).toArray⟩)] 20)) := (Below.refl _ _).alloc (Nat.le_refl _) _
      refine hK.out _ _ (s5.since al5) (fun _ => ?_)
      clear hK K
      refine wpAnyH_ready (rs := [10]) (by kernel_rfl) (by simp) ?_
      refine AllReadyH.cons rfl (fun K hK => ?_) AllReadyH.nil
      go_simp
      have hj := joined_new [iN c.s, iS ⟨#[58, 32]⟩, iS ⟨(printTT c.t).toArray⟩] w5 (HE.out.below s5.1) (ok_N HCK.out.2.2.2 (ok_S _ (ok_S _ ok_nil))) (by simp) (by
        have h1 := ch_len HCK.out
        unfold chTx at h1
        simp only [List.length_append, List.length_cons] at h1
        simp only [itemsB_N, itemsB_S, itemsB_nil, List.append_nil, List.length_append]
        simp only [List.length_cons, List.length_nil]
        omega)
      have hji : itemsB [iN c.s, iS ⟨#[58, 32]⟩, iS ⟨(printTT c.t).toArray⟩] = chTx c := by
        simp only [itemsB_N, itemsB_S, itemsB_nil, List.append_nil]
        rfl
      rw [hji] at hj
      obtain ⟨y, hy⟩ : ∃ y : ByteArray, (⟨(chTx c).toArray⟩ : ByteArray) = y := ⟨_, rfl⟩
      have hyl : chTx c = y.data.toList := by rw [← hy]
      rw [hy] at hj
      rw [hyl] at HTK
      refine Calls.mono hj ?_
      clear hj hji hy hyl
      rintro e w6 ⟨rfl, q6⟩
      have s6 : HeS W1 wr.heap.size (.cells #[.int .i64 c.s, .slice (some ⟨c.b, c.off, none⟩) (flatTT c.t).length c.cap] 49 (0, 0)) w6 := s5.since q6
      have T6 := Lib.hid (T5.out.below q6)
      clear q6
      go_wp2_with fail
      refine hK.out _ _ s6 (fun _ => ?_)
      clear hK K
      refine wpAnyH_ready (rs := [11]) (by kernel_rfl) (by simp) ?_
      refine AllReadyH.cons rfl (fun K hK => ?_) AllReadyH.nil
      go_simp
      go_wp2_with fail
      have al6 : Below w6.heap.size w6 (w6.alloc (.cells #[.string y] 9)) := (Below.refl _ _).alloc (Nat.le_refl _) _
      have s7 : HeS W1 wr.heap.size (.cells #[.int .i64 c.s, .slice (some ⟨c.b, c.off, none⟩) (flatTT c.t).length c.cap] 49 (0, 0)) (w6.alloc (.cells #[.string y] 9)) := s6.since al6
      have OWN := Lib.hid (T6.out.below al6)
      refine hK.out _ _ s7 (fun _ => ?_)
      clear hK K
      refine wpAnyH_ready (rs := [12]) (by kernel_rfl) (by simp) ?_
      refine AllReadyH.cons rfl (fun K hK => ?_) AllReadyH.nil
      obtain ⟨v', w7, hr, hown, hgrow, -, hat⟩ := run_append_own_at (P := Tryd.prog) (w6.alloc (.cells #[.string y] 9)) W1.heap.size 52 52 9 i0 _ 1 16 Tryd.underlying52 HI.out HZ0.out HZ1.out HZ2.out rfl (by decide) u3 _ _ OWN.out ⟨w6.heap.size, 0, none⟩ 1 1 [.string y] rfl (cell_one_new _ _ _) (by intro u hu; rw [List.mem_singleton.1 hu]; rfl) (by unfold maxLen; omega) (by omega) s7.1.size
      rw [if_pos (by kernel_rfl)]
      refine wp_append (.tmp 13) (.tmp 24) 52 rfl v' w7 hr ?_
      have s8 : HeS W1 wr.heap.size (.cells #[.int .i64 c.s, .slice (some ⟨c.b, c.off, none⟩) (flatTT c.t).length c.cap] 49 (0, 0)) w7 := ⟨Below.of_grown s7.1 hgrow s7.1.size (fun g hg => (OWN.out.lt g hg).1), (hgrow.block _ (Array.getElem?_eq_some_iff.1 s7.2).1 (fun e => by have h1 := (HT.out.lt _ e.symm).2; omega)).trans s7.2⟩
      have HOWN := Lib.hid hown
      clear hr hown hgrow hat
      refine hK.out _ _ s8 (fun _ => ?_)
      clear hK K
      refine wpAnyH_take (i := 13) (v := ?_) rfl (by kernel_rfl) (by kernel_rfl) (by kernel_rfl) (fun _ _ _ h => h) (Or.inl ⟨by rfl, ?_⟩) (by assumption) ?_
      rotate_left
      · (intro wq hq; clear hq; go_simp; try with_reducible rfl)
      simp only [List.getElem_toArray, List.getElem_cons_succ, List.getElem_cons_zero, Act.put, List.setIfInBounds_toArray, List.set_cons_zero, List.set_cons_succ]
      refine wpAnyH_done (by kernel_rfl) ?_ _
      go_wp2_with fail
      refine ⟨⟨k + 1, done ++ [y], by simp, by omega, by simp; omega, ?_, ?_, s8.1⟩, by simp [intOf]; omega⟩
      · unfold Strs
        rw [List.length_append, List.map_append]
        exact HOWN.out
      · rw [HTK.out, ← HDM.out]; simp
    · obtain rfl : k = cs.length := by omega
      have hdm := HDM.out
      rw [List.take_length] at hdm
      have hj2 := join_own ⟨#[59, 32]⟩ u3 W1.heap.size done wr HT.out (by omega) (by
        rw [hdm]
        have h1 := ent_len cs HOK.out
        show (Lib.join (cs.map chTx) [59, 32]).length ≤ _
        omega)
      rw [hdm] at hj2
      have HJ2 := Lib.hid hj2
      clear hj2 hdm
      go_wp2_with fail
      refine HJ2.out.mono ?_
      rintro e w5 ⟨rfl, b5⟩
      have XB5 := Lib.hid (HBr.out.trans (b5.mono HBr.out.size))
      clear b5
      have hj := joined_new [iS ⟨#[60]⟩, iS ⟨(Lib.join (cs.map chTx) [59, 32]).toArray⟩, iS ⟨#[62]⟩] w5 (HE.out.below XB5.out) (ok_S _ (ok_S _ (ok_S _ ok_nil))) (by simp) (by
        have h1 := ent_len cs HOK.out
        simp only [itemsB_S, itemsB_nil, List.append_nil, List.length_append]
        simp only [List.length_cons, List.length_nil]
        omega)
      have hji : itemsB [iS ⟨#[60]⟩, iS ⟨(Lib.join (cs.map chTx) [59, 32]).toArray⟩, iS ⟨#[62]⟩] = entTx cs := by
        simp only [itemsB_S, itemsB_nil, List.append_nil]
        rfl
      rw [hji] at hj
      have HJ := Lib.hid hj
      clear hj hji HJ2
      dsimp only
      go_wp2_with fail
      refine Calls.mono HJ.out ?_
      clear HJ
      rintro e w6 ⟨rfl, b6⟩
      dsimp only
      go_wp2
      go_ret
      have XB6 := XB5.out.trans (b6.mono XB5.out.size)
      exact ⟨rfl, HB0.out.trans (XB6.mono HB0.out.size)⟩
end Shw
end Go.Proofs.YthamcklkmchkiaaDoor
