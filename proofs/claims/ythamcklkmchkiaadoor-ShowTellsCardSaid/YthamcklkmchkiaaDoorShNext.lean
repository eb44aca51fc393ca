/-
  DERIVED. LAYER 21 (show): a value as text, walked: the reader's next part. (Printed by wip/gen_shnext.py.)
-/
import Derived.Test.YthamcklkmchkiaaDoorShStrs
import Derived.RegionTactic
import Derived.BigRegion
import Derived.Deep.QuietTactic
import Derived.BigQuiet
import Derived.Deep.RegionHeld3
namespace Go.Proofs.YthamcklkmchkiaaDoor
open Go.RowKit
namespace Shw
open Gl Glw Sh

set_option maxHeartbeats 1000000 in
theorem FormatBool (b : Bool) (w : World) : Calls Tryd.prog 50 #[.bool b] w fun e w' => e = .returned (.string ⟨(if b = true then ([116, 114, 117, 101] : List UInt8) else [102, 97, 108, 115, 101]).toArray⟩) ∧ w' = w := by
  cases b with
  | true =>
    go_enter Tryd.func50, Tryd.ntmps50
    go_wp2
    go_ret
    exact ⟨rfl, rfl⟩
  | false =>
    go_enter Tryd.func50, Tryd.ntmps50
    go_wp2
    go_ret
    exact ⟨rfl, rfl⟩

set_option maxHeartbeats 4000000 in
set_option maxRecDepth 100000 in
theorem next (w0 : World) (b off cap : Nat) (L : List VN) (hRV : RdV w0 b off L) (hE : Env w0) (hok : ∀ n ∈ L, VOk n) (hL : L.length ≤ 100000) (R : Nat) (hR : w0.heap.size ≤ R) :
    ∀ (f pos : Nat) (t : List UInt8) (m : Nat), showF f (L.drop pos) = some (t, m) → ∀ w : World, Below w0.heap.size w0 w → Rd w R b off L.length cap pos →
      Calls Tryd.prog 32 #[.pointer (some ⟨R, 0, none⟩)] w fun e w' => e = .returned (.string ⟨t.toArray⟩) ∧ Rd w' R b off L.length cap (pos + m) ∧ Apart R w w' := by
  intro f
  induction f with
  | zero => intro pos t m h; simp [showF] at h
  | succ f ih =>
    intro pos t m h w hB hr
    have IH := Lib.hid ih
    clear ih
    obtain ⟨n, r, hd⟩ : ∃ n r, L.drop pos = n :: r := by
      cases hd : L.drop pos with
      | nil => rw [hd] at h; simp [showF] at h
      | cons n r => exact ⟨n, r, rfl⟩
    have hpos : pos < L.length := by
      have := congrArg List.length hd
      rw [List.length_drop, List.length_cons] at this
      omega
    have hn : L[pos]? = some n := by
      have := congrArg (fun l : List VN => l[0]?) hd
      simpa using this
    have hdr : L.drop (pos + 1) = r := by
      rw [← List.drop_drop, hd]; rfl
    have hvn := hok n (List.mem_of_getElem? hn)
    rw [hd] at h
    have hbR : b < w0.heap.size := hRV.1
    obtain ⟨a0, a1, a2, a3, a4, a5, a6⟩ := (hRV.since hbR hB).2 pos n hn
    have c0 := hr.cell0
    have c1 := hr.cell1
    have hbw : b < w.heap.size := Nat.lt_of_lt_of_le hbR hB.size
    have hRw := hr.lt
    have a0' := (World.cell?_alloc_lt w (.cells #[.int .i64 0, .string ⟨#[]⟩, .string ⟨#[]⟩, .int .i64 0, .int .i64 0, .slice none 0 0, .slice none 0 0] 38) ⟨b, off + pos * 7, none⟩ hbw).trans a0
    have a1' := (World.cell?_alloc_lt w (.cells #[.int .i64 0, .string ⟨#[]⟩, .string ⟨#[]⟩, .int .i64 0, .int .i64 0, .slice none 0 0, .slice none 0 0] 38) ⟨b, off + pos * 7 + 1, none⟩ hbw).trans a1
    have a2' := (World.cell?_alloc_lt w (.cells #[.int .i64 0, .string ⟨#[]⟩, .string ⟨#[]⟩, .int .i64 0, .int .i64 0, .slice none 0 0, .slice none 0 0] 38) ⟨b, off + pos * 7 + 2, none⟩ hbw).trans a2
    have a3' := (World.cell?_alloc_lt w (.cells #[.int .i64 0, .string ⟨#[]⟩, .string ⟨#[]⟩, .int .i64 0, .int .i64 0, .slice none 0 0, .slice none 0 0] 38) ⟨b, off + pos * 7 + 3, none⟩ hbw).trans a3
    have a4' := (World.cell?_alloc_lt w (.cells #[.int .i64 0, .string ⟨#[]⟩, .string ⟨#[]⟩, .int .i64 0, .int .i64 0, .slice none 0 0, .slice none 0 0] 38) ⟨b, off + pos * 7 + 4, none⟩ hbw).trans a4
    have a5' := (World.cell?_alloc_lt w (.cells #[.int .i64 0, .string ⟨#[]⟩, .string ⟨#[]⟩, .int .i64 0, .int .i64 0, .slice none 0 0, .slice none 0 0] 38) ⟨b, off + pos * 7 + 5, none⟩ hbw).trans a5
    have a6' := (World.cell?_alloc_lt w (.cells #[.int .i64 0, .string ⟨#[]⟩, .string ⟨#[]⟩, .int .i64 0, .int .i64 0, .slice none 0 0, .slice none 0 0] 38) ⟨b, off + pos * 7 + 6, none⟩ hbw).trans a6
    have c0' := (World.cell?_alloc_lt w (.cells #[.int .i64 0, .string ⟨#[]⟩, .string ⟨#[]⟩, .int .i64 0, .int .i64 0, .slice none 0 0, .slice none 0 0] 38) ⟨R, 0, none⟩ hRw).trans c0
    have c1' := (World.cell?_alloc_lt w (.cells #[.int .i64 0, .string ⟨#[]⟩, .string ⟨#[]⟩, .int .i64 0, .int .i64 0, .slice none 0 0, .slice none 0 0] 38) ⟨R, 1, none⟩ hRw).trans c1
    have d0 : (0 : Int) ≤ pos := by omega
    have d1 : (pos : Int) < L.length := by omega
    have HR := Lib.hid hr
    have HB := Lib.hid hB
    have HOK := Lib.hid hok
    have HE := Lib.hid hE
    have HRV := Lib.hid hRV
    have HH := Lib.hid h
    have HDR := Lib.hid hdr
    have HN := Lib.hid hn
    have HVN := Lib.hid hvn
    clear h hr hB hok hE hRV hd hdr hn hvn
    go_enter Tryd.func32, Tryd.ntmps32
    go_wp2_with fail
    go_region
    have HB1 : Below w0.heap.size w0 (w.alloc (.cells #[.int .i64 n.k, .string n.lab, .string n.nm, .int .i64 n.num, .int .i64 n.many, .slice n.tA n.tn n.tc, .slice n.uA n.un n.uc] 38)).drew := (HB.out.alloc HB.out.size _).drew
    have HA1 : Apart R w (w.alloc (.cells #[.int .i64 n.k, .string n.lab, .string n.nm, .int .i64 n.num, .int .i64 n.many, .slice n.tA n.tn n.tc, .slice n.uA n.un n.uc] 38)).drew := .of_below ((Below.refl _ _).alloc (Nat.le_refl _) _).drew
    have HR1 : Rd (w.alloc (.cells #[.int .i64 n.k, .string n.lab, .string n.nm, .int .i64 n.num, .int .i64 n.many, .slice n.tA n.tn n.tc, .slice n.uA n.un n.uc] 38)).drew R b off L.length cap pos := HR.out.below ((Below.refl _ _).alloc (Nat.le_refl _) _).drew
    have HN1 : (w.alloc (.cells #[.int .i64 n.k, .string n.lab, .string n.nm, .int .i64 n.num, .int .i64 n.many, .slice n.tA n.tn n.tc, .slice n.uA n.un n.uc] 38)).drew.heap[w.heap.size]? = some (.cells #[.int .i64 n.k, .string n.lab, .string n.nm, .int .i64 n.num, .int .i64 n.many, .slice n.tA n.tn n.tc, .slice n.uA n.un n.uc] 38 (0, 0)) := heap_alloc_new w _
    generalize (w.alloc (.cells #[.int .i64 n.k, .string n.lab, .string n.nm, .int .i64 n.num, .int .i64 n.many, .slice n.tA n.tn n.tc, .slice n.uA n.un n.uc] 38)).drew = W1 at HB1 HA1 HR1 HN1 ⊢
    clear c0 c1 c0' c1' a0 a1 a2 a3 a4 a5 a6 a0' a1' a2' a3' a4' a5' a6'
    have c1 := HR1.cell1
    have f1 := HR1.frozen 1
    have HB2 : Below w0.heap.size w0 (W1.setCell ⟨R, 1, none⟩ (.int .i64 ((pos : Int) + 1))) := HB1.setCell hR _
    have HA2 : Apart R w (W1.setCell ⟨R, 1, none⟩ (.int .i64 ((pos : Int) + 1))) := HA1.set 1 _
    have HR2 : Rd (W1.setCell ⟨R, 1, none⟩ (.int .i64 ((pos : Int) + 1))) R b off L.length cap (pos + 1) := HR1.set (pos + 1)
    have HN2 : (W1.setCell ⟨R, 1, none⟩ (.int .i64 ((pos : Int) + 1))).heap[w.heap.size]? = some (.cells #[.int .i64 n.k, .string n.lab, .string n.nm, .int .i64 n.num, .int .i64 n.many, .slice n.tA n.tn n.tc, .slice n.uA n.un n.uc] 38 (0, 0)) := (Below.heap_setCell W1 ⟨R, 1, none⟩ _ w.heap.size (by simp; omega)).trans HN1
    obtain ⟨W2, hW2⟩ : ∃ W2, W1.setCell ⟨R, 1, none⟩ (.int .i64 ((pos : Int) + 1)) = W2 := ⟨_, rfl⟩
    rw [hW2] at HB2 HA2 HR2 HN2
    have n0 : W2.cell? ⟨w.heap.size, 0, none⟩ = some (.int .i64 n.k) := by rw [Lib.cell_of_heap HN2]; rfl
    have n2 : W2.cell? ⟨w.heap.size, 2, none⟩ = some (.string n.nm) := by rw [Lib.cell_of_heap HN2]; rfl
    have n3 : W2.cell? ⟨w.heap.size, 3, none⟩ = some (.int .i64 n.num) := by rw [Lib.cell_of_heap HN2]; rfl
    have n4 : W2.cell? ⟨w.heap.size, 4, none⟩ = some (.int .i64 n.many) := by rw [Lib.cell_of_heap HN2]; rfl
    have XW := Lib.hid hW2
    have XB := Lib.hid HB2
    have XA := Lib.hid HA2
    have XR := Lib.hid HR2
    have hres : showF (f + 1) (n :: r) = some (t, m) := HH.out
    simp only [showF] at hres
    obtain ⟨K, hK⟩ : ∃ K, n.k = K := ⟨_, rfl⟩
    rw [hK] at n0 hres
    clear HB1 HA1 HR1 HN1 HB2 HA2 HR2 HN2 hK
    by_cases k0 : K = 0
    · skip
      rw [if_pos k0] at hres
      simp only [Option.some.injEq, Prod.mk.injEq] at hres
      obtain ⟨rfl, rfl⟩ := hres
      have q0 : (K == 0) = true := by rw [beq_iff_eq]; exact k0
      clear k0
      go_wp2_with fail
      have hj := joined_new [iL n.num] W2 (HE.out.below XB.out) (ok_L ⟨HVN.out.1, HVN.out.2.1⟩ ok_nil) (by simp) (by
        have := itoa_len n.num HVN.out.1 HVN.out.2.1
        simp only [itemsB_L, itemsB_nil, List.append_nil]
        omega)
      simp only [itemsB_L, itemsB_nil, List.append_nil] at hj
      refine Calls.mono hj ?_
      clear hj
      rintro e w3 ⟨rfl, b3⟩
      dsimp only
      go_wp2
      go_ret
      exact ⟨rfl, XR.out.below b3, XA.out.trans (.of_below b3)⟩
    · skip
      rw [if_neg k0] at hres
      by_cases k1 : K = 1
      · skip
        rw [if_pos k1] at hres
        have q0 : (K == 0) = false := by rw [beq_eq_false_iff_ne]; exact k0
        have q1 : (K == 1) = true := by rw [beq_iff_eq]; exact k1
        clear k0 k1
        by_cases h1 : n.num = 1
        · skip
          rw [if_pos h1] at hres
          simp only [Option.some.injEq, Prod.mk.injEq] at hres
          obtain ⟨rfl, rfl⟩ := hres
          have qb : (n.num == 1) = true := by rw [beq_iff_eq]; exact h1
          clear h1
          have HFB := Lib.hid (fun w => FormatBool true w)
          go_wp2_with fail
          refine (HFB.out _).mono ?_
          rintro e w3 ⟨rfl, rfl⟩
          dsimp only
          go_wp2
          go_ret
          exact ⟨rfl, XR.out, XA.out⟩
        · skip
          rw [if_neg h1] at hres
          simp only [Option.some.injEq, Prod.mk.injEq] at hres
          obtain ⟨rfl, rfl⟩ := hres
          have qb : (n.num == 1) = false := by rw [beq_eq_false_iff_ne]; exact h1
          clear h1
          have HFB := Lib.hid (fun w => FormatBool false w)
          go_wp2_with fail
          refine (HFB.out _).mono ?_
          rintro e w3 ⟨rfl, rfl⟩
          dsimp only
          go_wp2
          go_ret
          exact ⟨rfl, XR.out, XA.out⟩
      · skip
        rw [if_neg k1] at hres
        by_cases k2 : K = 2
        · skip
          rw [if_pos k2] at hres
          simp only [Option.some.injEq, Prod.mk.injEq] at hres
          obtain ⟨rfl, rfl⟩ := hres
          have q0 : (K == 0) = false := by rw [beq_eq_false_iff_ne]; exact k0
          have q1 : (K == 1) = false := by rw [beq_eq_false_iff_ne]; exact k1
          have q2 : (K == 2) = true := by rw [beq_iff_eq]; exact k2
          clear k0 k1 k2
          have hq := fun w hT => Quote n.nm w hT (by have := HVN.out.2.2.2; omega)
          have HQ := Lib.hid hq
          clear hq
          go_wp2_with fail
          refine (HQ.out _ (HE.out.below XB.out).tabs).mono ?_
          rintro e w3 ⟨rfl, b3⟩
          dsimp only
          go_wp2
          go_ret
          exact ⟨rfl, XR.out.below b3, XA.out.trans (.of_below b3)⟩
        · skip
          rw [if_neg k2] at hres
          by_cases k3 : K = 3
          · skip
            rw [if_pos k3] at hres
            simp only [Option.some.injEq, Prod.mk.injEq] at hres
            obtain ⟨rfl, rfl⟩ := hres
            have q0 : (K == 0) = false := by rw [beq_eq_false_iff_ne]; exact k0
            have q1 : (K == 1) = false := by rw [beq_eq_false_iff_ne]; exact k1
            have q2 : (K == 2) = false := by rw [beq_eq_false_iff_ne]; exact k2
            have q3 : (K == 3) = true := by rw [beq_iff_eq]; exact k3
            clear k0 k1 k2 k3
            go_wp2
            go_ret
            exact ⟨rfl, XR.out, XA.out⟩
          · skip
            rw [if_neg k3] at hres
            by_cases k5 : K = 5
            · skip
              rw [if_pos k5] at hres
              cases hs : showF f r with
              | none => rw [hs] at hres; cases hres
              | some p =>
                rw [hs] at hres
                simp only [Option.map_some, Option.some.injEq, Prod.mk.injEq] at hres
                obtain ⟨rfl, rfl⟩ := hres
                have hlen := show_len f r p.1 p.2 (fun x hx => HOK.out x (by
                  have := HDR.out
                  rw [← this] at hx
                  exact List.mem_of_mem_drop hx)) hs
                have hrl : r.length ≤ 100000 := by rw [← HDR.out, List.length_drop]; omega
                rw [← HDR.out] at hs
                have HS := Lib.hid hs
                have HLEN := Lib.hid hlen
                clear hs hlen
                have q0 : (K == 0) = false := by rw [beq_eq_false_iff_ne]; exact k0
                have q1 : (K == 1) = false := by rw [beq_eq_false_iff_ne]; exact k1
                have q2 : (K == 2) = false := by rw [beq_eq_false_iff_ne]; exact k2
                have q3 : (K == 3) = false := by rw [beq_eq_false_iff_ne]; exact k3
                have q5 : (K == 5) = true := by rw [beq_iff_eq]; exact k5
                clear k0 k1 k2 k3 k5
                go_wp2_with fail
                have hS0 : Apart R W2 W2.drew := .of_below (Below.refl _ _).drew
                have hNR : w.heap.size ≠ R := by omega
                have hNW : w.heap.size < W2.heap.size := lt_of_cell n0
                have HNN := Lib.hid (show ∀ wq, Apart R W2 wq → wq.cell? ⟨w.heap.size, 2, none⟩ = some (.string n.nm) from fun wq hq => (hq.cell ⟨w.heap.size, 2, none⟩ hNW hNR).trans n2)
                refine wp_region_held_drew (S := fun wx => Apart R W2 wx) (by kernel_rfl) hS0 (fun hHeld => ?_)
                refine wpAnyH_take (i := 0) (v := ?_) rfl (by kernel_rfl) (by kernel_rfl) (by kernel_rfl) (fun _ _ _ h => h) (Or.inl ⟨by rfl, ?_⟩) (by assumption) ?_
                rotate_left
                · (intro wq hq; clear hq; go_simp; try with_reducible rfl)
                simp only [List.getElem_toArray, List.getElem_cons_zero, Act.put, List.setIfInBounds_toArray, List.set_cons_zero, List.set_cons_succ]
                refine wpAnyH_take (i := 1) (v := ?_) rfl (by kernel_rfl) (by kernel_rfl) (by kernel_rfl) (fun _ _ _ h => h) (Or.inl ⟨by rfl, ?_⟩) (by assumption) ?_
                rotate_left
                · (intro wq hq; clear hq; go_simp; try with_reducible rfl)
                simp only [List.getElem_toArray, List.getElem_cons_succ, List.getElem_cons_zero, Act.put, List.setIfInBounds_toArray, List.set_cons_zero, List.set_cons_succ]
                refine wpAnyH_take (i := 2) (v := ?_) rfl (by kernel_rfl) (by kernel_rfl) (by kernel_rfl) (fun _ _ _ h => h) (Or.inl ⟨by rfl, ?_⟩) (by assumption) ?_
                rotate_left
                · (intro wq hq; have hx := HNN.out wq hq; clear hq; go_simp; try with_reducible rfl)
                simp only [List.getElem_toArray, List.getElem_cons_succ, List.getElem_cons_zero, Act.put, List.setIfInBounds_toArray, List.set_cons_zero, List.set_cons_succ]
                refine wpAnyH_take (i := 3) (v := ?_) rfl (by kernel_rfl) (by kernel_rfl) (by kernel_rfl) (fun _ _ _ h => h) (Or.inl ⟨by rfl, ?_⟩) (by assumption) ?_
                rotate_left
                · (intro wq hq; clear hq; go_simp; try with_reducible rfl)
                simp only [List.getElem_toArray, List.getElem_cons_succ, List.getElem_cons_zero, Act.put, List.setIfInBounds_toArray, List.set_cons_zero, List.set_cons_succ]
                refine wpAnyH_take (i := 4) (v := ?_) rfl (by kernel_rfl) (by kernel_rfl) (by kernel_rfl) (fun _ _ _ h => h) (Or.inl ⟨by rfl, ?_⟩) (by assumption) ?_
                rotate_left
                · (intro wq hq; clear hq; go_simp; try with_reducible rfl)
                simp only [List.getElem_toArray, List.getElem_cons_succ, List.getElem_cons_zero, Act.put, List.setIfInBounds_toArray, List.set_cons_zero, List.set_cons_succ]
                refine wpAnyH_take (i := 5) (v := ?_) rfl (by kernel_rfl) (by kernel_rfl) (by kernel_rfl) (fun _ _ _ h => h) (Or.inl ⟨by rfl, ?_⟩) (by assumption) ?_
                rotate_left
                · (intro wq hq; clear hq; go_simp; try with_reducible rfl)
                simp only [List.getElem_toArray, List.getElem_cons_succ, List.getElem_cons_zero, Act.put, List.setIfInBounds_toArray, List.set_cons_zero, List.set_cons_succ]
                refine wpAnyH_take (i := 8) (v := ?_) rfl (by kernel_rfl) (by kernel_rfl) (by kernel_rfl) (fun _ _ _ h => h) (Or.inl ⟨by rfl, ?_⟩) (by assumption) ?_
                rotate_left
                · (intro wq hq; clear hq; go_simp; try with_reducible rfl)
                simp only [List.getElem_toArray, List.getElem_cons_succ, List.getElem_cons_zero, Act.put, List.setIfInBounds_toArray, List.set_cons_zero, List.set_cons_succ]
                refine wpAnyH_ready (rs := [6]) (by kernel_rfl) (by simp) ?_
                refine AllReadyH.cons rfl (fun K hK => ?_) AllReadyH.nil
                go_simp
                go_at_call 32
                refine (IH.out (pos + 1) p.1 p.2 HS.out _ (XB.out.drew) (XR.out.below (Below.refl _ _).drew)).mono ?_
                rintro e w5 ⟨rfl, r5, a5⟩
                have s5 : Apart R W2 w5 := hS0.trans a5
                have b5 : Below w0.heap.size w0 w5 := XB.out.trans (s5.below hR (by have := XB.out.size; omega))
                clear a5
                go_wp2_with fail
                refine hK.out _ _ s5 (fun _ => ?_)
                clear hK K
                refine wpAnyH_take (i := 7) (v := ?_) rfl (by kernel_rfl) (by kernel_rfl) (by kernel_rfl) (fun _ _ _ h => h) (Or.inl ⟨by rfl, ?_⟩) (by assumption) ?_
                rotate_left
                · (intro wq hq; clear hq; go_simp; try with_reducible rfl)
                simp only [List.getElem_toArray, List.getElem_cons_succ, List.getElem_cons_zero, Act.put, List.setIfInBounds_toArray, List.set_cons_zero, List.set_cons_succ]
                refine wpAnyH_ready (rs := [9]) (by kernel_rfl) (by simp) ?_
                refine AllReadyH.cons rfl (fun K hK => ?_) AllReadyH.nil
                go_simp
                go_wp2_with fail
                refine hK.out _ _ (s5.trans (.of_below ((Below.refl _ _).alloc (Nat.le_refl _) _))) (fun _ => ?_)
                clear hK K
                refine wpAnyH_ready (rs := [10]) (by kernel_rfl) (by simp) ?_
                refine AllReadyH.cons rfl (fun K hK => ?_) AllReadyH.nil
                go_simp
                have hj := joined_new [iS ⟨#[91]⟩, iS n.nm, iS ⟨#[58, 32]⟩, iS ⟨p.1.toArray⟩, iS ⟨#[93]⟩] w5 (HE.out.below b5) (ok_S _ (ok_S _ (ok_S _ (ok_S _ (ok_S _ ok_nil))))) (by simp) (by
                  have h1 := HLEN.out
                  have h2 := HVN.out.2.2.2
                  simp only [itemsB_S, itemsB_nil, List.append_nil, List.length_append, size_data]
                  simp only [List.length_cons, List.length_nil]
                  omega)
                have hji : itemsB [iS ⟨#[91]⟩, iS n.nm, iS ⟨#[58, 32]⟩, iS ⟨p.1.toArray⟩, iS ⟨#[93]⟩] = 91 :: (n.nm.data.toList ++ (58 :: 32 :: (p.1 ++ [93]))) := by
                  simp only [itemsB_S, itemsB_nil, List.append_nil]
                  rfl
                rw [hji] at hj
                refine Calls.mono hj ?_
                clear hj hji
                rintro e w6 ⟨rfl, b6⟩
                have s6 : Apart R W2 w6 := s5.trans (.of_below b6)
                have r6 := r5.below b6
                clear b6
                go_wp2_with fail
                refine hK.out _ _ s6 (fun _ => ?_)
                clear hK K
                refine wpAnyH_take (i := 11) (v := ?_) rfl (by kernel_rfl) (by kernel_rfl) (by kernel_rfl) (fun _ _ _ h => h) (Or.inl ⟨by rfl, ?_⟩) (by assumption) ?_
                rotate_left
                · (intro wq hq; clear hq; go_simp; try with_reducible rfl)
                simp only [List.getElem_toArray, List.getElem_cons_succ, List.getElem_cons_zero, Act.put, List.setIfInBounds_toArray, List.set_cons_zero, List.set_cons_succ]
                refine wpAnyH_done (by kernel_rfl) ?_ _
                go_wp2
                go_ret
                exact ⟨rfl, by rw [← Nat.add_assoc]; exact r6, XA.out.trans s6⟩
            · skip
              rw [if_neg k5] at hres
              by_cases k4 : K = 4
              · skip
                rw [if_pos k4] at hres
                obtain ⟨M, hM⟩ : ∃ M, n.many.toNat = M := ⟨_, rfl⟩
                rw [hM] at hres
                cases hs : rowsG (showF f) M r with
                | none => rw [hs] at hres; cases hres
                | some p =>
                  obtain ⟨all, ms⟩ := p
                  rw [hs] at hres
                  simp only [Option.map_some, Option.some.injEq, Prod.mk.injEq] at hres
                  obtain ⟨rfl, rfl⟩ := hres
                  have hokd : ∀ q, ∀ x ∈ L.drop q, VOk x := fun q x hx => HOK.out x (List.mem_of_mem_drop hx)
                  have HOKD := Lib.hid hokd
                  clear hokd
                  have hrl := rows_len (showF f) (fun l t m => show_len f l t m) M r all ms (by rw [← HDR.out]; exact HOKD.out _) hs
                  have hjl := join_len all
                  have hge := lens_ge all
                  have hms : ms ≤ 100000 := by
                    have := hrl.2.1
                    rw [← HDR.out, List.length_drop] at this
                    omega
                  have hMb : M ≤ 400000000 := by omega
                  have HRL := Lib.hid (show lens all ≤ 800000000 by omega)
                  have HALL := Lib.hid hrl.2.2
                  have HJL := Lib.hid hjl
                  rw [← HDR.out] at hs
                  have HS := Lib.hid hs
                  clear hs hrl hjl hge hms
                  obtain ⟨i0, hi, hz0, hz1, hz2⟩ := info_parts infoStr
                  have HI := Lib.hid hi
                  have HZ0 := Lib.hid hz0
                  have HZ1 := Lib.hid hz1
                  have HZ2 := Lib.hid hz2
                  clear hi hz0 hz1 hz2
                  have q0 : (K == 0) = false := by rw [beq_eq_false_iff_ne]; exact k0
                  have q1 : (K == 1) = false := by rw [beq_eq_false_iff_ne]; exact k1
                  have q2 : (K == 2) = false := by rw [beq_eq_false_iff_ne]; exact k2
                  have q3 : (K == 3) = false := by rw [beq_eq_false_iff_ne]; exact k3
                  have q5 : (K == 5) = false := by rw [beq_eq_false_iff_ne]; exact k5
                  have q4 : (K == 4) = true := by rw [beq_iff_eq]; exact k4
                  clear k0 k1 k2 k3 k5 k4
                  have hRW : R < W2.heap.size := by
                    have := XR.out.lt
                    exact this
                  go_wp2
                  go_loopw [4, 62] (fun v i wr => SRel W2 R b off cap L (showF f) M all (pos + 1 + ms) v i wr) (fun _ i _ => M - (intOf i).toNat)
                  case atStart => exact ⟨0, pos + 1, [], all, ms, rfl, Nat.zero_le _, rfl, XR.out, Apart.refl _ _, Strs.nil_ _ _, HS.out, rfl, rfl⟩
                  case round =>
                    clear HS
                    obtain ⟨k, ps, done, rest, mr, rfl, hk, hdn, hR3, hA3, hT3, hg3, happ, htot⟩ := hrel
                    have HR3 := Lib.hid hR3
                    have HA3 := Lib.hid hA3
                    have HT3 := Lib.hid hT3
                    have HAPP := Lib.hid happ
                    by_cases hlt : k < M
                    · obtain ⟨c, hc⟩ : ∃ c, M - k = c + 1 := ⟨M - k - 1, by omega⟩
                      rw [hc] at hg3
                      obtain ⟨n', r', t', m1, us, m2, hl', hg1, hg2, hrst, hmr⟩ := rows_step hg3
                      subst hrst hmr
                      have hps : ps < L.length := by
                        have := congrArg List.length hl'
                        rw [List.length_drop, List.length_cons] at this
                        omega
                      have hn' : L[ps]? = some n' := by
                        have := congrArg (fun l : List VN => l[0]?) hl'
                        simpa using this
                      have hvn' := HOK.out n' (List.mem_of_getElem? hn')
                      have hlen' := show_len f _ _ _ (HOKD.out ps) hg1
                      have hB3 : Below w0.heap.size w0 wr := XB.out.trans (hA3.below hR (by have := XB.out.size; omega))
                      have e1 := ((HRV.out.since hbR hB3).2 ps n' hn').2.1
                      have c0 := hR3.cell0
                      have c1 := hR3.cell1
                      have d0 : (0 : Int) ≤ ps := by omega
                      have d1 : (ps : Int) < L.length := by omega
                      have hkm : (k : Int) < n.many := by omega
                      have HB3 := Lib.hid hB3
                      have HV' := Lib.hid hvn'
                      have HL' := Lib.hid hlen'
                      have HG1 := Lib.hid hg1
                      have HG2 := Lib.hid hg2
                      clear hR3 hA3 hT3 hg3 happ hl' hn' hvn' hlen' hB3 hg1 hg2
                      go_wp2_with fail
                      go_region
                      go_wp2_with fail
                      refine (IH.out ps t' m1 HG1.out _ (HB3.out.drew) (HR3.out.below (Below.refl _ _).drew)).mono ?_
                      rintro e w5 ⟨rfl, r5, a5⟩
                      have A5 := (Apart.of_below (R := R) (Below.refl wr.heap.size wr).drew).trans a5
                      have T5 := HT3.out.apart A5 hRW
                      have A5' := HA3.out.trans A5
                      have B5 : Below w0.heap.size w0 w5 := XB.out.trans (A5'.below hR (by have := XB.out.size; omega))
                      have hj := joined_new [iS n'.lab, iS ⟨#[58, 32]⟩, iS ⟨t'.toArray⟩] w5 (HE.out.below B5) (ok_S _ (ok_S _ (ok_S _ ok_nil))) (by simp) (by
                        have h1 := HL'.out
                        have h2 := HV'.out.2.2.1
                        simp only [itemsB_S, itemsB_nil, List.append_nil, List.length_append, size_data]
                        simp only [List.length_cons, List.length_nil]
                        rw [List.length_drop] at h1
                        omega)
                      have hji : itemsB [iS n'.lab, iS ⟨#[58, 32]⟩, iS ⟨t'.toArray⟩] = n'.lab.data.toList ++ (58 :: 32 :: t') := by
                        simp only [itemsB_S, itemsB_nil, List.append_nil]
                        rfl
                      rw [hji] at hj
                      obtain ⟨y, hy⟩ : ∃ y : ByteArray, (⟨(n'.lab.data.toList ++ (58 :: 32 :: t')).toArray⟩ : ByteArray) = y := ⟨_, rfl⟩
                      have hyl : n'.lab.data.toList ++ (58 :: 32 :: t') = y.data.toList := by rw [← hy]
                      rw [hy] at hj
                      rw [hyl] at HAPP
                      have HJ := Lib.hid hj
                      have XR5 := Lib.hid r5
                      have XA5 := Lib.hid A5'
                      have XT5 := Lib.hid T5
                      have XB5 := Lib.hid B5
                      clear hj hji hy hyl r5 a5 A5 T5 A5' B5 c0 c1 e1
                      dsimp only
                      go_wp2_with fail
                      refine Calls.mono HJ.out ?_
                      clear HJ
                      rintro e w6 ⟨rfl, b6⟩
                      have XR6 := Lib.hid (XR5.out.below b6)
                      have XA6 := Lib.hid (XA5.out.trans (Apart.of_below b6))
                      have XT6 := Lib.hid (XT5.out.below b6)
                      clear b6
                      have hbw6 := XA6.out.2.2.2.1
                      have own : Strs (w6.alloc (.cells #[.string y] 9)) W2.heap.size u4 done := XT6.out.below ((Below.refl _ _).alloc (Nat.le_refl _) _)
                      have OWN := Lib.hid own
                      clear own
                      have hdl : done.length ≤ 400000000 := by omega
                      dsimp only
                      go_wp2_with (at_builtin; refine wpList_append_own_at _ rfl (.tmp 75) (.tmp 84) 52 rfl W2.heap.size 9 i0 _ 1 16 Tryd.underlying52 HI.out HZ0.out HZ1.out HZ2.out rfl (by decide) u4 _ _ rfl OWN.out ⟨w6.heap.size, 0, none⟩ 1 1 [.string y] rfl rfl (cell_one_new _ _ _) (by intro u hu; rw [List.mem_singleton.1 hu]; rfl) (by unfold maxLen; omega) (by omega) (by simp; omega) ?_; intro v' w7 hown hgrow _ hat; have HOWN := Lib.hid hown; have HGR := Lib.hid hgrow; clear hown hgrow hat)
                      have al : Below w6.heap.size w6 (w6.alloc (.cells #[.string y] 9)) := (Below.refl _ _).alloc (Nat.le_refl _) _
                      refine ⟨⟨k + 1, ps + m1, done ++ [y], us, m2, by simp, by omega, by simp; omega, (XR6.out.below al).grown HGR.out (fun e => by have := (OWN.out.lt R e).1; omega), Apart.of_grown (XA6.out.trans (Apart.of_below al)) HGR.out (fun g hg => (OWN.out.lt g hg).1), ?_, ?_, ?_, by omega⟩, by simp [intOf]; omega⟩
                      · unfold Strs
                        rw [List.length_append, List.map_append]
                        exact HOWN.out
                      · have := HG2.out
                        rw [List.drop_drop] at this
                        rw [show M - (k + 1) = c by omega]
                        exact this
                      · rw [← HAPP.out]; simp
                    · obtain rfl : k = M := by omega
                      rw [Nat.sub_self] at hg3
                      simp only [rowsG, Option.some.injEq, Prod.mk.injEq] at hg3
                      obtain ⟨rfl, rfl⟩ := hg3
                      have happ' := HAPP.out
                      rw [List.append_nil] at happ'
                      have hkm : ¬ (k : Int) < n.many := by omega
                      have hB3 : Below w0.heap.size w0 wr := XB.out.trans (hA3.below hR (by have := XB.out.size; omega))
                      have hj2 := join_own ⟨#[44, 32]⟩ u4 W2.heap.size done wr hT3 (by omega) (by
                        rw [happ']
                        have h1 := HJL.out
                        have h2 := HRL.out
                        show (Lib.join all [44, 32]).length ≤ _
                        omega)
                      rw [happ'] at hj2
                      have HJ2 := Lib.hid hj2
                      have HB3 := Lib.hid hB3
                      clear hj2 happ' hR3 hA3 hT3 happ hB3 HAPP
                      go_wp2_with fail
                      refine HJ2.out.mono ?_
                      rintro e w5 ⟨rfl, b5⟩
                      have XR5 := Lib.hid (HR3.out.below b5)
                      have XA5 := Lib.hid (HA3.out.trans (Apart.of_below b5))
                      have XB5 := Lib.hid (XB.out.trans (XA5.out.below hR (by have := XB.out.size; omega)))
                      clear b5
                      have hj := joined_new [iS ⟨#[123]⟩, iS ⟨(Lib.join all [44, 32]).toArray⟩, iS ⟨#[125]⟩] w5 (HE.out.below XB5.out) (ok_S _ (ok_S _ (ok_S _ ok_nil))) (by simp) (by
                        have h1 := HJL.out
                        have h2 := HRL.out
                        simp only [itemsB_S, itemsB_nil, List.append_nil, List.length_append]
                        simp only [List.length_cons, List.length_nil]
                        omega)
                      have hji : itemsB [iS ⟨#[123]⟩, iS ⟨(Lib.join all [44, 32]).toArray⟩, iS ⟨#[125]⟩] = 123 :: (Lib.join all [44, 32] ++ [125]) := by
                        simp only [itemsB_S, itemsB_nil, List.append_nil]
                        rfl
                      rw [hji] at hj
                      have HJ := Lib.hid hj
                      clear hj hji HJ2
                      dsimp only
                      go_wp2_with fail
                      refine Calls.mono HJ.out ?_
                      clear HJ
                      rintro e w6 ⟨rfl, b6⟩
                      have XR6 := Lib.hid (XR5.out.below b6)
                      have XA6 := Lib.hid (XA5.out.trans (Apart.of_below b6))
                      clear b6
                      dsimp only
                      go_wp2
                      go_ret
                      refine ⟨rfl, ?_, XA.out.trans XA6.out⟩
                      have := XR6.out
                      rw [show pos + (1 + ms) = ps by omega]
                      exact this
              · skip
                rw [if_neg k4] at hres
                by_cases k7 : K = 7
                · skip
                  rw [if_pos k7] at hres
                  cases hs : showF f r with
                  | none => rw [hs] at hres; cases hres
                  | some p =>
                    rw [hs] at hres
                    simp only [Option.map_some, Option.some.injEq, Prod.mk.injEq] at hres
                    obtain ⟨rfl, rfl⟩ := hres
                    rw [← HDR.out] at hs
                    have HS := Lib.hid hs
                    clear hs
                    have q0 : (K == 0) = false := by rw [beq_eq_false_iff_ne]; exact k0
                    have q1 : (K == 1) = false := by rw [beq_eq_false_iff_ne]; exact k1
                    have q2 : (K == 2) = false := by rw [beq_eq_false_iff_ne]; exact k2
                    have q3 : (K == 3) = false := by rw [beq_eq_false_iff_ne]; exact k3
                    have q5 : (K == 5) = false := by rw [beq_eq_false_iff_ne]; exact k5
                    have q4 : (K == 4) = false := by rw [beq_eq_false_iff_ne]; exact k4
                    have q7 : (K == 7) = true := by rw [beq_iff_eq]; exact k7
                    clear k0 k1 k2 k3 k5 k4 k7
                    go_wp2_with fail
                    refine (IH.out (pos + 1) p.1 p.2 HS.out _ XB.out XR.out).mono ?_
                    rintro e w3 ⟨rfl, r3, a3⟩
                    dsimp only
                    go_wp2
                    go_ret
                    exact ⟨rfl, by rw [← Nat.add_assoc]; exact r3, XA.out.trans a3⟩
                · skip
                  rw [if_neg k7] at hres
                  simp only [Option.some.injEq, Prod.mk.injEq] at hres
                  obtain ⟨rfl, rfl⟩ := hres
                  have q0 : (K == 0) = false := by rw [beq_eq_false_iff_ne]; exact k0
                  have q1 : (K == 1) = false := by rw [beq_eq_false_iff_ne]; exact k1
                  have q2 : (K == 2) = false := by rw [beq_eq_false_iff_ne]; exact k2
                  have q3 : (K == 3) = false := by rw [beq_eq_false_iff_ne]; exact k3
                  have q5 : (K == 5) = false := by rw [beq_eq_false_iff_ne]; exact k5
                  have q4 : (K == 4) = false := by rw [beq_eq_false_iff_ne]; exact k4
                  have q7 : (K == 7) = false := by rw [beq_eq_false_iff_ne]; exact k7
                  clear k0 k1 k2 k3 k5 k4 k7
                  go_wp2
                  go_ret
                  exact ⟨rfl, XR.out, XA.out⟩
end Shw
end Go.Proofs.YthamcklkmchkiaaDoor
