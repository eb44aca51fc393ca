/-
  DERIVED. THE STATEMENT LexKinds, WALKED.
-/
import Derived.Test.YtelejpajnemmfaaDoorLxAlive
import Derived.Test.YtelejpajnemmfaaDoorLxPure3
import Derived.Deep.RegionHeld3
namespace Go.Proofs.YtelejpajnemmfaaDoor
open Go.RowKit
namespace Lxw
open Gl Lx Glw

theorem quiet_left {P : Program} {f : FuncId} {args : Array Value} {w : World} {n : Nat} {v : Value}
    (h : Calls P f args (w.drewN n) fun e w' => e = .returned v ∧ w.drewN n = w') : Calls P f args (w.drewN n) fun e w' => e = .returned v ∧ ∃ m, w' = w.drewN m :=
  h.mono fun _ _ ⟨he, hm⟩ => ⟨he, n, hm.symm⟩

/-- Contracts from any world beyond W. -/
theorem IsKey_from (W wq : World) (s : ByteArray) (hs : s.size ≤ 17592186044416) (hE : Env W) (hq : Below W.heap.size W wq) (q : Bool) (hk : keysL.contains s.data.toList = q) :
    Calls Tryd.prog 14 #[.string s] wq fun e w' => e = .returned (.bool q) ∧ Below W.heap.size W w' :=
  (IsKey s wq hs (hE.below hq)).mono fun _ _ ⟨he, hb⟩ => ⟨by rw [he, hk], hq.trans (hb.mono hq.size)⟩
theorem refIsWord_from (W wq : World) (s : ByteArray) (hs : s.size ≤ 35184372088832) (hq : Below W.heap.size W wq) (hk : wordL s.data.toList = true) :
    Calls Tryd.prog 19 #[.string s] wq fun e w' => e = .returned (.bool true) ∧ Below W.heap.size W w' :=
  (refIsWord s wq hs).mono fun _ _ ⟨he, hb⟩ => ⟨by rw [he, hk], hb ▸ hq⟩

theorem begins_cases {K : Nat} {x : List UInt8} {c : UInt8} (h : Begins K x c) :
    (K = 1 ∧ 97 ≤ c.toNat ∧ c.toNat ≤ 122 ∧ wordL x = true ∧ keysL.contains x = false) ∨ (K = 6 ∧ 97 ≤ c.toNat ∧ c.toNat ≤ 122 ∧ wordL x = true ∧ keysL.contains x = true) ∨
    (K = 2 ∧ 65 ≤ c.toNat ∧ c.toNat ≤ 90 ∧ tagL x = true) ∨ (K = 3 ∧ 48 ≤ c.toNat ∧ c.toNat ≤ 57 ∧ x.length ≤ 18) ∨ (K = 4 ∧ c.toNat = 34) ∨
    (K = 5 ∧ ¬ (97 ≤ c.toNat ∧ c.toNat ≤ 122) ∧ ¬ (65 ≤ c.toNat ∧ c.toNat ≤ 90) ∧ ¬ (48 ≤ c.toNat ∧ c.toNat ≤ 57) ∧ c.toNat ≠ 34) := by
  obtain ⟨h1, h2, h3, h4, h5, h6, h7, h8, h9, h10⟩ := h
  have hG : greatB c = true ↔ 65 ≤ c.toNat ∧ c.toNat ≤ 90 := by unfold greatB; rw [inB_iff]; omega
  have hS : smallB c = true ↔ 97 ≤ c.toNat ∧ c.toNat ≤ 122 := by unfold smallB; rw [inB_iff]; omega
  have hF : figB c = true ↔ 48 ≤ c.toNat ∧ c.toNat ≤ 57 := by unfold figB; rw [inB_iff]; omega
  rw [hG] at h3
  rw [hF] at h5 h10
  rw [hS] at h6 h7 h9
  rcases (show K = 1 ∨ K = 2 ∨ K = 3 ∨ K = 4 ∨ K = 5 ∨ K = 6 by omega) with rfl | rfl | rfl | rfl | rfl | rfl
  · have hs := h6.1 (.inl rfl)
    refine .inl ⟨rfl, hs.1, hs.2, h9 hs, ?_⟩
    cases hk : keysL.contains x with
    | false => rfl
    | true => have := (h7 hs).2 hk; omega
  · have hs := h3.1 rfl
    exact .inr (.inr (.inl ⟨rfl, hs.1, hs.2, h8 rfl⟩))
  · have hs := h5.1 rfl
    exact .inr (.inr (.inr (.inl ⟨rfl, hs.1, hs.2, h10 hs⟩)))
  · exact .inr (.inr (.inr (.inr (.inl ⟨rfl, h4.1 rfl⟩))))
  · refine .inr (.inr (.inr (.inr (.inr ⟨rfl, fun h => ?_, fun h => ?_, fun h => ?_, fun h => ?_⟩))))
    · have := h6.2 h; omega
    · have := h3.2 h; omega
    · have := h5.2 h; omega
    · have := h4.2 h; omega
  · have hs := h6.1 (.inr rfl)
    exact .inr (.inl ⟨rfl, hs.1, hs.2, h9 hs, (h7 hs).1 rfl⟩)

set_option maxHeartbeats 4000000 in
set_option maxRecDepth 100000 in
theorem law_kinds (s : ByteArray) (w : World) (hE : Env w) : Calls Tryd.prog 8 #[.string s] w fun e w' => e = .returned (.bool true) ∧ Below w.heap.size w w' := by
  have HE := Lib.hid hE
  clear hE
  by_cases h : 3000 < s.size
  · have h' : (3000 : Int) < s.size := by omega
    go_enter Tryd.func8, Tryd.ntmps8
    go_wp2_with fail
    refine (alive _ HE.out).mono ?_
    rintro e w1 ⟨rfl, b1⟩
    dsimp only
    go_wp2
    go_ret
    exact ⟨rfl, b1⟩
  · have h' : (s.size : Int) ≤ 3000 := by omega
    have hs : s.size ≤ 100000 := by omega
    have hs3 : s.size ≤ 3000 := by omega
    clear h
    cases hA : tokL 0 s.data.toList with
    | inl p =>
      have HA := Lib.hid hA
      clear hA
      go_enter Tryd.func8, Tryd.ntmps8
      go_wp2_with fail
      refine (Tokens_no s _ hs HE.out p HA.out).mono ?_
      rintro e w1 ⟨rfl, b1⟩
      have HB := Lib.hid b1
      clear b1
      dsimp only
      go_wp2_with fail
      go_loop [6] (fun i => i = .int .i64 0) (fun _ => 0)
      case atStart => rfl
      case round =>
        obtain rfl := hrel
        go_wp2_with fail
        refine (alive _ (HE.out.below HB.out)).mono ?_
        rintro e w2 ⟨rfl, b2⟩
        dsimp only
        go_wp2
        go_ret
        exact ⟨rfl, HB.out.trans (b2.mono HB.out.size)⟩
    | inr ts =>
      have hmany := tokL_many _ 0 ts hA
      have htext := tokL_text _ 0 ts hA
      have hkinds := tokL_kinds s.data.toList _ s.data.toList 0 ts (Nat.le_refl _) rfl hA
      simp only [size_data] at hmany htext
      have hpos : 0 < ts.length := List.length_pos_iff.2 (tokL_ne hA)
      have hpos' : (0 : Int) < ts.length := by omega
      have hn1 : (ts.length : Int) ≤ 3001 := by omega
      have HA := Lib.hid hA
      have HTX := Lib.hid htext
      have HKD := Lib.hid hkinds
      clear hA hmany htext hkinds
      go_enter Tryd.func8, Tryd.ntmps8
      go_wp2_with fail
      refine (Tokens_ok s _ hs HE.out ts HA.out).mono ?_
      rintro e w3 ⟨g, cap, rfl, hg, hR, b1⟩
      have HR3 := Lib.hid hR
      have HB3 := Lib.hid b1
      clear hR b1 hg
      dsimp only
      go_wp2_with fail
      go_loopw [6] (fun i wr => ∃ k : Nat, i = .int .i64 k ∧ k ≤ ts.length ∧ Below w3.heap.size w3 wr) (fun i _ => ts.length - (intOf i).toNat)
      case atStart => exact ⟨0, rfl, Nat.zero_le _, Below.refl _ _⟩
      case round =>
        obtain ⟨k, rfl, hk, hB⟩ := hrel
        have HBr := Lib.hid hB
        have hbw := hB.size
        have HR4 := Lib.hid (HR3.out.below hB)
        clear hB
        by_cases hlt : k < ts.length
        · obtain ⟨t, ht⟩ : ∃ t, ts[k]? = some t := ⟨ts[k], List.getElem?_eq_getElem hlt⟩
          obtain ⟨e0, e1, e2, e3⟩ := HR4.out.2 k (t4 t) (by rw [List.getElem?_map, ht]; rfl)
          rw [Nat.zero_add] at e0 e1 e2 e3
          simp only [t4] at e0 e1 e2 e3
          have htx := HTX.out t (List.mem_of_getElem? ht)
          have hkd := HKD.out t (List.mem_of_getElem? ht)
          have hlt' : (k : Int) < ts.length := by omega
          have hk0 : (0 : Int) ≤ k := by omega
          have hys : (⟨t.text.toArray⟩ : ByteArray).size = t.text.length := mk_size _
          have hyd : (⟨t.text.toArray⟩ : ByteArray).data.toList = t.text := rfl
          obtain ⟨y, hy⟩ : ∃ y : ByteArray, (⟨t.text.toArray⟩ : ByteArray) = y := ⟨_, rfl⟩
          rw [hy] at e1 hys hyd
          unfold OneKind at hkd
          rw [← hyd] at hkd
          rw [← hys] at htx
          generalize t.kind = K at e0 hkd
          generalize t.lo = lo at e2 hkd
          generalize t.hi = hi at e3
          have BW : Below w3.heap.size w3 (wr.alloc (.cells #[.int .i64 K, .string y, .int .i64 lo, .int .i64 hi] 31)) := HBr.out.alloc hbw _
          have TKB : Tk (wr.alloc (.cells #[.int .i64 K, .string y, .int .i64 lo, .int .i64 hi] 31)) wr.heap.size K y lo hi := heap_alloc_new wr _
          have hys2 : y.size ≤ 3000 := by omega
          have hys' : (y.size : Int) ≤ 3000 := by omega
          clear ht hy hys hyd htx
          rcases hkd with hk00 | ⟨c, hc, hbg⟩
          · subst hk00
            have HBW := Lib.hid BW
            clear TKB BW
            go_wp2_with fail
            refine ⟨⟨k + 1, by simp, by omega, HBW.out⟩, by simp [intOf]; omega⟩
          · have hlos : lo < s.size := by have := (List.getElem?_eq_some_iff.1 hc).1; rw [size_data] at this; exact this
            have hlos' : (lo : Int) < s.size := by omega
            have hlo0 : (0 : Int) ≤ lo := by omega
            have hgl := get_lt s lo hlos
            have hcc : s.get! lo = c := by have := get_data s lo hlos; rw [hc] at this; exact (Option.some.inj this).symm
            obtain ⟨C, hC⟩ : ∃ C : Int, (c.toNat : Int) = C := ⟨_, rfl⟩
            have hgC : (((s[lo]'hlos).toNat : Nat) : Int) = C := by rw [hgl, hcc, hC]
            have hc256 := c.toNat_lt
            have hbc := begins_cases hbg
            clear hbg hc hgl hcc
            rcases hbc with ⟨rfl, hc1, hc2, hw, hky⟩ | ⟨rfl, hc1, hc2, hw, hky⟩ | ⟨rfl, hc1, hc2, htg⟩ | ⟨rfl, hc1, hc2, h18⟩ | ⟨rfl, hc1⟩ | ⟨rfl, hc1, hc2, hc3, hc4⟩
            · skip
              have p97 : decide ((97 : Int) ≤ C) = true := by simp; omega
              have p122 : decide (C ≤ (122 : Int)) = true := by simp; omega
              have p48 : decide ((48 : Int) ≤ C) = true := by simp; omega
              have p57 : decide (C ≤ (57 : Int)) = false := by simp; omega
              have p65 : decide ((65 : Int) ≤ C) = true := by simp; omega
              have p90 : decide (C ≤ (90 : Int)) = false := by simp; omega
              have p34 : (C == 34) = false := by rw [beq_eq_false_iff_ne]; omega
              clear hC hc1 hc2 hc256
              have HW := Lib.hid hw
              have HKY := Lib.hid hky
              clear hw hky
              go_wp2_with fail
              obtain ⟨N, hN⟩ : ∃ N, wr.heap.size = N := ⟨_, rfl⟩
              rw [hN] at TKB ⊢
              generalize wr.alloc _ = W at TKB BW ⊢
              have t0 := TKB.cell0
              have t1 := TKB.cell1
              have hNW : N < W.heap.size := TKB.lt
              have hEW := HE.out.below (HB3.out.trans (BW.mono HB3.out.size))
              have HEW := Lib.hid hEW
              have HBW := Lib.hid BW
              clear TKB BW hN hEW e0 e1 e2 e3
              have hS0 : Below W.heap.size W W.drew := (Below.refl _ _).drew
              refine wp_region_held_drew (S := fun wx => Below W.heap.size W wx) (by kernel_rfl) hS0 (fun hHeld => ?_)
              refine wpAnyH_take (i := 0) (v := ?_) rfl (by kernel_rfl) (by kernel_rfl) (by kernel_rfl) (fun _ _ _ h => h) (Or.inl ⟨by rfl, ?_⟩) (by assumption) ?_
              rotate_left
              · (intro wq hq; clear hq; go_simp; try with_reducible rfl)
              simp only [List.getElem_toArray, List.getElem_cons_zero, Act.put, List.setIfInBounds_toArray, List.set_cons_zero, List.set_cons_succ]
              refine wpAnyH_take (i := 1) (v := ?_) rfl (by kernel_rfl) (by kernel_rfl) (by kernel_rfl) (fun _ _ _ h => h) (Or.inl ⟨by rfl, ?_⟩) (by assumption) ?_
              rotate_left
              · (intro wq hq; clear hq; go_simp; try with_reducible rfl)
              simp only [List.getElem_toArray, List.getElem_cons_succ, List.getElem_cons_zero, Act.put, List.setIfInBounds_toArray, List.set_cons_zero, List.set_cons_succ]
              refine wpAnyH_take (i := 2) (v := ?_) rfl (by kernel_rfl) (by kernel_rfl) (by kernel_rfl) (fun _ _ _ h => h) (Or.inl ⟨by rfl, ?_⟩) (by assumption) ?_
              rotate_left
              · (intro wq hq; clear hq; go_simp; try with_reducible rfl)
              simp only [List.getElem_toArray, List.getElem_cons_succ, List.getElem_cons_zero, Act.put, List.setIfInBounds_toArray, List.set_cons_zero, List.set_cons_succ]
              refine wpAnyH_take (i := 3) (v := ?_) rfl (by kernel_rfl) (by kernel_rfl) (by kernel_rfl) (fun _ _ _ h => h) (Or.inl ⟨by rfl, ?_⟩) (by assumption) ?_
              rotate_left
              · (intro wq hq; have hx := (hq.cell (p := ⟨N, 0, none⟩) hNW).trans t0; clear hq; go_simp; try with_reducible rfl)
              simp only [List.getElem_toArray, List.getElem_cons_succ, List.getElem_cons_zero, Act.put, List.setIfInBounds_toArray, List.set_cons_zero, List.set_cons_succ]
              refine wpAnyH_take (i := 4) (v := ?_) rfl (by kernel_rfl) (by kernel_rfl) (by kernel_rfl) (fun _ _ _ h => h) (Or.inl ⟨by rfl, ?_⟩) (by assumption) ?_
              rotate_left
              · (intro wq hq; clear hq; go_simp; try with_reducible rfl)
              simp only [List.getElem_toArray, List.getElem_cons_succ, List.getElem_cons_zero, Act.put, List.setIfInBounds_toArray, List.set_cons_zero, List.set_cons_succ]
              refine wpAnyH_take (i := 5) (v := ?_) rfl (by kernel_rfl) (by kernel_rfl) (by kernel_rfl) (fun _ _ _ h => h) (Or.inl ⟨by rfl, ?_⟩) (by assumption) ?_
              rotate_left
              · (intro wq hq; clear hq; go_simp; try with_reducible rfl)
              simp only [List.getElem_toArray, List.getElem_cons_succ, List.getElem_cons_zero, Act.put, List.setIfInBounds_toArray, List.set_cons_zero, List.set_cons_succ]
              refine wpAnyH_take (i := 6) (v := ?_) rfl (by kernel_rfl) (by kernel_rfl) (by kernel_rfl) (fun _ _ _ h => h) (Or.inl ⟨by rfl, ?_⟩) (by assumption) ?_
              rotate_left
              · (intro wq hq; have hx := (hq.cell (p := ⟨N, 1, none⟩) hNW).trans t1; clear hq; go_simp; try with_reducible rfl)
              simp only [List.getElem_toArray, List.getElem_cons_succ, List.getElem_cons_zero, Act.put, List.setIfInBounds_toArray, List.set_cons_zero, List.set_cons_succ]
              refine wpAnyH_ready (rs := [7]) (by kernel_rfl) (by simp) ?_
              refine AllReadyH.cons rfl (fun K hK => ?_) AllReadyH.nil
              go_simp
              go_at_call 14; refine (IsKey_from W _ y (by omega) HEW.out (by assumption) false HKY.out).mono ?_; rintro e w5 ⟨rfl, b5⟩
              go_wp2_with fail
              refine hK.out _ _ b5 (fun _ => ?_)
              clear hK K
              refine wpAnyH_take (i := 8) (v := ?_) rfl (by kernel_rfl) (by kernel_rfl) (by kernel_rfl) (fun _ _ _ h => h) (Or.inl ⟨by rfl, ?_⟩) (by assumption) ?_
              rotate_left
              · (intro wq hq; clear hq; go_simp; try with_reducible rfl)
              simp only [List.getElem_toArray, List.getElem_cons_succ, List.getElem_cons_zero, Act.put, List.setIfInBounds_toArray, List.set_cons_zero, List.set_cons_succ]
              refine wpAnyH_take (i := 9) (v := ?_) rfl (by kernel_rfl) (by kernel_rfl) (by kernel_rfl) (fun _ _ _ h => h) (Or.inl ⟨by rfl, ?_⟩) (by assumption) ?_
              rotate_left
              · (intro wq hq; clear hq; go_simp; try with_reducible rfl)
              simp only [List.getElem_toArray, List.getElem_cons_succ, List.getElem_cons_zero, Act.put, List.setIfInBounds_toArray, List.set_cons_zero, List.set_cons_succ]
              refine wpAnyH_take (i := 10) (v := ?_) rfl (by kernel_rfl) (by kernel_rfl) (by kernel_rfl) (fun _ _ _ h => h) (Or.inl ⟨by rfl, ?_⟩) (by assumption) ?_
              rotate_left
              · (intro wq hq; clear hq; go_simp; try with_reducible rfl)
              simp only [List.getElem_toArray, List.getElem_cons_succ, List.getElem_cons_zero, Act.put, List.setIfInBounds_toArray, List.set_cons_zero, List.set_cons_succ]
              refine wpAnyH_take (i := 11) (v := ?_) rfl (by kernel_rfl) (by kernel_rfl) (by kernel_rfl) (fun _ _ _ h => h) (Or.inl ⟨by rfl, ?_⟩) (by assumption) ?_
              rotate_left
              · (intro wq hq; clear hq; go_simp; try with_reducible rfl)
              simp only [List.getElem_toArray, List.getElem_cons_succ, List.getElem_cons_zero, Act.put, List.setIfInBounds_toArray, List.set_cons_zero, List.set_cons_succ]
              refine wpAnyH_take (i := 12) (v := ?_) rfl (by kernel_rfl) (by kernel_rfl) (by kernel_rfl) (fun _ _ _ h => h) (Or.inl ⟨by rfl, ?_⟩) (by assumption) ?_
              rotate_left
              · (intro wq hq; have hx := (hq.cell (p := ⟨N, 0, none⟩) hNW).trans t0; clear hq; go_simp; try with_reducible rfl)
              simp only [List.getElem_toArray, List.getElem_cons_succ, List.getElem_cons_zero, Act.put, List.setIfInBounds_toArray, List.set_cons_zero, List.set_cons_succ]
              refine wpAnyH_take (i := 13) (v := ?_) rfl (by kernel_rfl) (by kernel_rfl) (by kernel_rfl) (fun _ _ _ h => h) (Or.inl ⟨by rfl, ?_⟩) (by assumption) ?_
              rotate_left
              · (intro wq hq; clear hq; go_simp; try with_reducible rfl)
              simp only [List.getElem_toArray, List.getElem_cons_succ, List.getElem_cons_zero, Act.put, List.setIfInBounds_toArray, List.set_cons_zero, List.set_cons_succ]
              refine wpAnyH_take (i := 14) (v := ?_) rfl (by kernel_rfl) (by kernel_rfl) (by kernel_rfl) (fun _ _ _ h => h) (Or.inl ⟨by rfl, ?_⟩) (by assumption) ?_
              rotate_left
              · (intro wq hq; clear hq; go_simp; try with_reducible rfl)
              simp only [List.getElem_toArray, List.getElem_cons_succ, List.getElem_cons_zero, Act.put, List.setIfInBounds_toArray, List.set_cons_zero, List.set_cons_succ]
              refine wpAnyH_take (i := 15) (v := undef) rfl (by kernel_rfl) (by kernel_rfl) (by kernel_rfl) (fun _ _ _ h => h) (Or.inr ⟨by rfl, rfl⟩) (by assumption) ?_
              simp only [List.getElem_toArray, List.getElem_cons_succ, List.getElem_cons_zero, Act.put, List.setIfInBounds_toArray, List.set_cons_zero, List.set_cons_succ]
              refine wpAnyH_take (i := 16) (v := undef) rfl (by kernel_rfl) (by kernel_rfl) (by kernel_rfl) (fun _ _ _ h => h) (Or.inr ⟨by rfl, rfl⟩) (by assumption) ?_
              simp only [List.getElem_toArray, List.getElem_cons_succ, List.getElem_cons_zero, Act.put, List.setIfInBounds_toArray, List.set_cons_zero, List.set_cons_succ]
              refine wpAnyH_take (i := 17) (v := undef) rfl (by kernel_rfl) (by kernel_rfl) (by kernel_rfl) (fun _ _ _ h => h) (Or.inr ⟨by rfl, rfl⟩) (by assumption) ?_
              simp only [List.getElem_toArray, List.getElem_cons_succ, List.getElem_cons_zero, Act.put, List.setIfInBounds_toArray, List.set_cons_zero, List.set_cons_succ]
              refine wpAnyH_take (i := 18) (v := undef) rfl (by kernel_rfl) (by kernel_rfl) (by kernel_rfl) (fun _ _ _ h => h) (Or.inr ⟨by rfl, rfl⟩) (by assumption) ?_
              simp only [List.getElem_toArray, List.getElem_cons_succ, List.getElem_cons_zero, Act.put, List.setIfInBounds_toArray, List.set_cons_zero, List.set_cons_succ]
              refine wpAnyH_take (i := 19) (v := ?_) rfl (by kernel_rfl) (by kernel_rfl) (by kernel_rfl) (fun _ _ _ h => h) (Or.inl ⟨by rfl, ?_⟩) (by assumption) ?_
              rotate_left
              · (intro wq hq; clear hq; go_simp; try with_reducible rfl)
              simp only [List.getElem_toArray, List.getElem_cons_succ, List.getElem_cons_zero, Act.put, List.setIfInBounds_toArray, List.set_cons_zero, List.set_cons_succ]
              refine wpAnyH_take (i := 20) (v := ?_) rfl (by kernel_rfl) (by kernel_rfl) (by kernel_rfl) (fun _ _ _ h => h) (Or.inl ⟨by rfl, ?_⟩) (by assumption) ?_
              rotate_left
              · (intro wq hq; clear hq; go_simp; try with_reducible rfl)
              simp only [List.getElem_toArray, List.getElem_cons_succ, List.getElem_cons_zero, Act.put, List.setIfInBounds_toArray, List.set_cons_zero, List.set_cons_succ]
              refine wpAnyH_take (i := 21) (v := ?_) rfl (by kernel_rfl) (by kernel_rfl) (by kernel_rfl) (fun _ _ _ h => h) (Or.inl ⟨by rfl, ?_⟩) (by assumption) ?_
              rotate_left
              · (intro wq hq; clear hq; go_simp; try with_reducible rfl)
              simp only [List.getElem_toArray, List.getElem_cons_succ, List.getElem_cons_zero, Act.put, List.setIfInBounds_toArray, List.set_cons_zero, List.set_cons_succ]
              refine wpAnyH_take (i := 22) (v := ?_) rfl (by kernel_rfl) (by kernel_rfl) (by kernel_rfl) (fun _ _ _ h => h) (Or.inl ⟨by rfl, ?_⟩) (by assumption) ?_
              rotate_left
              · (intro wq hq; clear hq; go_simp; try with_reducible rfl)
              simp only [List.getElem_toArray, List.getElem_cons_succ, List.getElem_cons_zero, Act.put, List.setIfInBounds_toArray, List.set_cons_zero, List.set_cons_succ]
              refine wpAnyH_take (i := 23) (v := ?_) rfl (by kernel_rfl) (by kernel_rfl) (by kernel_rfl) (fun _ _ _ h => h) (Or.inl ⟨by rfl, ?_⟩) (by assumption) ?_
              rotate_left
              · (intro wq hq; clear hq; go_simp; try with_reducible rfl)
              simp only [List.getElem_toArray, List.getElem_cons_succ, List.getElem_cons_zero, Act.put, List.setIfInBounds_toArray, List.set_cons_zero, List.set_cons_succ]
              refine wpAnyH_take (i := 24) (v := ?_) rfl (by kernel_rfl) (by kernel_rfl) (by kernel_rfl) (fun _ _ _ h => h) (Or.inl ⟨by rfl, ?_⟩) (by assumption) ?_
              rotate_left
              · (intro wq hq; clear hq; go_simp; try with_reducible rfl)
              simp only [List.getElem_toArray, List.getElem_cons_succ, List.getElem_cons_zero, Act.put, List.setIfInBounds_toArray, List.set_cons_zero, List.set_cons_succ]
              refine wpAnyH_take (i := 25) (v := ?_) rfl (by kernel_rfl) (by kernel_rfl) (by kernel_rfl) (fun _ _ _ h => h) (Or.inl ⟨by rfl, ?_⟩) (by assumption) ?_
              rotate_left
              · (intro wq hq; have hx := (hq.cell (p := ⟨N, 1, none⟩) hNW).trans t1; clear hq; go_simp; try with_reducible rfl)
              simp only [List.getElem_toArray, List.getElem_cons_succ, List.getElem_cons_zero, Act.put, List.setIfInBounds_toArray, List.set_cons_zero, List.set_cons_succ]
              refine wpAnyH_ready (rs := [26]) (by kernel_rfl) (by simp) ?_
              refine AllReadyH.cons rfl (fun K hK => ?_) AllReadyH.nil
              go_simp
              go_at_call 19; refine (refIsWord_from W _ y (by omega) (by assumption) HW.out).mono ?_; rintro e w6 ⟨rfl, b6⟩
              go_wp2_with fail
              refine hK.out _ _ b6 (fun _ => ?_)
              clear hK K
              refine wpAnyH_take (i := 27) (v := ?_) rfl (by kernel_rfl) (by kernel_rfl) (by kernel_rfl) (fun _ _ _ h => h) (Or.inl ⟨by rfl, ?_⟩) (by assumption) ?_
              rotate_left
              · (intro wq hq; clear hq; go_simp; try with_reducible rfl)
              simp only [List.getElem_toArray, List.getElem_cons_succ, List.getElem_cons_zero, Act.put, List.setIfInBounds_toArray, List.set_cons_zero, List.set_cons_succ]
              refine wpAnyH_take (i := 28) (v := ?_) rfl (by kernel_rfl) (by kernel_rfl) (by kernel_rfl) (fun _ _ _ h => h) (Or.inl ⟨by rfl, ?_⟩) (by assumption) ?_
              rotate_left
              · (intro wq hq; clear hq; go_simp; try with_reducible rfl)
              simp only [List.getElem_toArray, List.getElem_cons_succ, List.getElem_cons_zero, Act.put, List.setIfInBounds_toArray, List.set_cons_zero, List.set_cons_succ]
              refine wpAnyH_take (i := 29) (v := ?_) rfl (by kernel_rfl) (by kernel_rfl) (by kernel_rfl) (fun _ _ _ h => h) (Or.inl ⟨by rfl, ?_⟩) (by assumption) ?_
              rotate_left
              · (intro wq hq; clear hq; go_simp; try with_reducible rfl)
              simp only [List.getElem_toArray, List.getElem_cons_succ, List.getElem_cons_zero, Act.put, List.setIfInBounds_toArray, List.set_cons_zero, List.set_cons_succ]
              refine wpAnyH_take (i := 30) (v := ?_) rfl (by kernel_rfl) (by kernel_rfl) (by kernel_rfl) (fun _ _ _ h => h) (Or.inl ⟨by rfl, ?_⟩) (by assumption) ?_
              rotate_left
              · (intro wq hq; clear hq; go_simp; try with_reducible rfl)
              simp only [List.getElem_toArray, List.getElem_cons_succ, List.getElem_cons_zero, Act.put, List.setIfInBounds_toArray, List.set_cons_zero, List.set_cons_succ]
              refine wpAnyH_take (i := 31) (v := ?_) rfl (by kernel_rfl) (by kernel_rfl) (by kernel_rfl) (fun _ _ _ h => h) (Or.inl ⟨by rfl, ?_⟩) (by assumption) ?_
              rotate_left
              · (intro wq hq; clear hq; go_simp; try with_reducible rfl)
              simp only [List.getElem_toArray, List.getElem_cons_succ, List.getElem_cons_zero, Act.put, List.setIfInBounds_toArray, List.set_cons_zero, List.set_cons_succ]
              refine wpAnyH_take (i := 32) (v := ?_) rfl (by kernel_rfl) (by kernel_rfl) (by kernel_rfl) (fun _ _ _ h => h) (Or.inl ⟨by rfl, ?_⟩) (by assumption) ?_
              rotate_left
              · (intro wq hq; clear hq; go_simp; try with_reducible rfl)
              simp only [List.getElem_toArray, List.getElem_cons_succ, List.getElem_cons_zero, Act.put, List.setIfInBounds_toArray, List.set_cons_zero, List.set_cons_succ]
              refine wpAnyH_take (i := 33) (v := undef) rfl (by kernel_rfl) (by kernel_rfl) (by kernel_rfl) (fun _ _ _ h => h) (Or.inr ⟨by rfl, rfl⟩) (by assumption) ?_
              simp only [List.getElem_toArray, List.getElem_cons_succ, List.getElem_cons_zero, Act.put, List.setIfInBounds_toArray, List.set_cons_zero, List.set_cons_succ]
              refine wpAnyH_take (i := 34) (v := undef) rfl (by kernel_rfl) (by kernel_rfl) (by kernel_rfl) (fun _ _ _ h => h) (Or.inr ⟨by rfl, rfl⟩) (by assumption) ?_
              simp only [List.getElem_toArray, List.getElem_cons_succ, List.getElem_cons_zero, Act.put, List.setIfInBounds_toArray, List.set_cons_zero, List.set_cons_succ]
              refine wpAnyH_take (i := 35) (v := undef) rfl (by kernel_rfl) (by kernel_rfl) (by kernel_rfl) (fun _ _ _ h => h) (Or.inr ⟨by rfl, rfl⟩) (by assumption) ?_
              simp only [List.getElem_toArray, List.getElem_cons_succ, List.getElem_cons_zero, Act.put, List.setIfInBounds_toArray, List.set_cons_zero, List.set_cons_succ]
              refine wpAnyH_take (i := 36) (v := undef) rfl (by kernel_rfl) (by kernel_rfl) (by kernel_rfl) (fun _ _ _ h => h) (Or.inr ⟨by rfl, rfl⟩) (by assumption) ?_
              simp only [List.getElem_toArray, List.getElem_cons_succ, List.getElem_cons_zero, Act.put, List.setIfInBounds_toArray, List.set_cons_zero, List.set_cons_succ]
              refine wpAnyH_take (i := 37) (v := ?_) rfl (by kernel_rfl) (by kernel_rfl) (by kernel_rfl) (fun _ _ _ h => h) (Or.inl ⟨by rfl, ?_⟩) (by assumption) ?_
              rotate_left
              · (intro wq hq; clear hq; go_simp; try with_reducible rfl)
              simp only [List.getElem_toArray, List.getElem_cons_succ, List.getElem_cons_zero, Act.put, List.setIfInBounds_toArray, List.set_cons_zero, List.set_cons_succ]
              refine wpAnyH_take (i := 38) (v := ?_) rfl (by kernel_rfl) (by kernel_rfl) (by kernel_rfl) (fun _ _ _ h => h) (Or.inl ⟨by rfl, ?_⟩) (by assumption) ?_
              rotate_left
              · (intro wq hq; clear hq; go_simp; try with_reducible rfl)
              simp only [List.getElem_toArray, List.getElem_cons_succ, List.getElem_cons_zero, Act.put, List.setIfInBounds_toArray, List.set_cons_zero, List.set_cons_succ]
              refine wpAnyH_done (by kernel_rfl) ?_ _
              go_wp2
              refine ⟨⟨k + 1, by simp, by omega, HBW.out.trans (b6.mono HBW.out.size)⟩, by simp [intOf]; omega⟩
            · skip
              have p97 : decide ((97 : Int) ≤ C) = true := by simp; omega
              have p122 : decide (C ≤ (122 : Int)) = true := by simp; omega
              have p48 : decide ((48 : Int) ≤ C) = true := by simp; omega
              have p57 : decide (C ≤ (57 : Int)) = false := by simp; omega
              have p65 : decide ((65 : Int) ≤ C) = true := by simp; omega
              have p90 : decide (C ≤ (90 : Int)) = false := by simp; omega
              have p34 : (C == 34) = false := by rw [beq_eq_false_iff_ne]; omega
              clear hC hc1 hc2 hc256
              have HW := Lib.hid hw
              have HKY := Lib.hid hky
              clear hw hky
              go_wp2_with fail
              obtain ⟨N, hN⟩ : ∃ N, wr.heap.size = N := ⟨_, rfl⟩
              rw [hN] at TKB ⊢
              generalize wr.alloc _ = W at TKB BW ⊢
              have t0 := TKB.cell0
              have t1 := TKB.cell1
              have hNW : N < W.heap.size := TKB.lt
              have hEW := HE.out.below (HB3.out.trans (BW.mono HB3.out.size))
              have HEW := Lib.hid hEW
              have HBW := Lib.hid BW
              clear TKB BW hN hEW e0 e1 e2 e3
              have hS0 : Below W.heap.size W W.drew := (Below.refl _ _).drew
              refine wp_region_held_drew (S := fun wx => Below W.heap.size W wx) (by kernel_rfl) hS0 (fun hHeld => ?_)
              refine wpAnyH_take (i := 0) (v := ?_) rfl (by kernel_rfl) (by kernel_rfl) (by kernel_rfl) (fun _ _ _ h => h) (Or.inl ⟨by rfl, ?_⟩) (by assumption) ?_
              rotate_left
              · (intro wq hq; clear hq; go_simp; try with_reducible rfl)
              simp only [List.getElem_toArray, List.getElem_cons_zero, Act.put, List.setIfInBounds_toArray, List.set_cons_zero, List.set_cons_succ]
              refine wpAnyH_take (i := 1) (v := ?_) rfl (by kernel_rfl) (by kernel_rfl) (by kernel_rfl) (fun _ _ _ h => h) (Or.inl ⟨by rfl, ?_⟩) (by assumption) ?_
              rotate_left
              · (intro wq hq; clear hq; go_simp; try with_reducible rfl)
              simp only [List.getElem_toArray, List.getElem_cons_succ, List.getElem_cons_zero, Act.put, List.setIfInBounds_toArray, List.set_cons_zero, List.set_cons_succ]
              refine wpAnyH_take (i := 2) (v := ?_) rfl (by kernel_rfl) (by kernel_rfl) (by kernel_rfl) (fun _ _ _ h => h) (Or.inl ⟨by rfl, ?_⟩) (by assumption) ?_
              rotate_left
              · (intro wq hq; clear hq; go_simp; try with_reducible rfl)
              simp only [List.getElem_toArray, List.getElem_cons_succ, List.getElem_cons_zero, Act.put, List.setIfInBounds_toArray, List.set_cons_zero, List.set_cons_succ]
              refine wpAnyH_take (i := 3) (v := ?_) rfl (by kernel_rfl) (by kernel_rfl) (by kernel_rfl) (fun _ _ _ h => h) (Or.inl ⟨by rfl, ?_⟩) (by assumption) ?_
              rotate_left
              · (intro wq hq; have hx := (hq.cell (p := ⟨N, 0, none⟩) hNW).trans t0; clear hq; go_simp; try with_reducible rfl)
              simp only [List.getElem_toArray, List.getElem_cons_succ, List.getElem_cons_zero, Act.put, List.setIfInBounds_toArray, List.set_cons_zero, List.set_cons_succ]
              refine wpAnyH_take (i := 4) (v := ?_) rfl (by kernel_rfl) (by kernel_rfl) (by kernel_rfl) (fun _ _ _ h => h) (Or.inl ⟨by rfl, ?_⟩) (by assumption) ?_
              rotate_left
              · (intro wq hq; clear hq; go_simp; try with_reducible rfl)
              simp only [List.getElem_toArray, List.getElem_cons_succ, List.getElem_cons_zero, Act.put, List.setIfInBounds_toArray, List.set_cons_zero, List.set_cons_succ]
              refine wpAnyH_take (i := 5) (v := ?_) rfl (by kernel_rfl) (by kernel_rfl) (by kernel_rfl) (fun _ _ _ h => h) (Or.inl ⟨by rfl, ?_⟩) (by assumption) ?_
              rotate_left
              · (intro wq hq; clear hq; go_simp; try with_reducible rfl)
              simp only [List.getElem_toArray, List.getElem_cons_succ, List.getElem_cons_zero, Act.put, List.setIfInBounds_toArray, List.set_cons_zero, List.set_cons_succ]
              refine wpAnyH_take (i := 6) (v := ?_) rfl (by kernel_rfl) (by kernel_rfl) (by kernel_rfl) (fun _ _ _ h => h) (Or.inl ⟨by rfl, ?_⟩) (by assumption) ?_
              rotate_left
              · (intro wq hq; have hx := (hq.cell (p := ⟨N, 1, none⟩) hNW).trans t1; clear hq; go_simp; try with_reducible rfl)
              simp only [List.getElem_toArray, List.getElem_cons_succ, List.getElem_cons_zero, Act.put, List.setIfInBounds_toArray, List.set_cons_zero, List.set_cons_succ]
              refine wpAnyH_ready (rs := [7]) (by kernel_rfl) (by simp) ?_
              refine AllReadyH.cons rfl (fun K hK => ?_) AllReadyH.nil
              go_simp
              go_at_call 14; refine (IsKey_from W _ y (by omega) HEW.out (by assumption) true HKY.out).mono ?_; rintro e w5 ⟨rfl, b5⟩
              go_wp2_with fail
              refine hK.out _ _ b5 (fun _ => ?_)
              clear hK K
              refine wpAnyH_take (i := 8) (v := ?_) rfl (by kernel_rfl) (by kernel_rfl) (by kernel_rfl) (fun _ _ _ h => h) (Or.inl ⟨by rfl, ?_⟩) (by assumption) ?_
              rotate_left
              · (intro wq hq; clear hq; go_simp; try with_reducible rfl)
              simp only [List.getElem_toArray, List.getElem_cons_succ, List.getElem_cons_zero, Act.put, List.setIfInBounds_toArray, List.set_cons_zero, List.set_cons_succ]
              refine wpAnyH_take (i := 9) (v := ?_) rfl (by kernel_rfl) (by kernel_rfl) (by kernel_rfl) (fun _ _ _ h => h) (Or.inl ⟨by rfl, ?_⟩) (by assumption) ?_
              rotate_left
              · (intro wq hq; clear hq; go_simp; try with_reducible rfl)
              simp only [List.getElem_toArray, List.getElem_cons_succ, List.getElem_cons_zero, Act.put, List.setIfInBounds_toArray, List.set_cons_zero, List.set_cons_succ]
              refine wpAnyH_take (i := 10) (v := ?_) rfl (by kernel_rfl) (by kernel_rfl) (by kernel_rfl) (fun _ _ _ h => h) (Or.inl ⟨by rfl, ?_⟩) (by assumption) ?_
              rotate_left
              · (intro wq hq; clear hq; go_simp; try with_reducible rfl)
              simp only [List.getElem_toArray, List.getElem_cons_succ, List.getElem_cons_zero, Act.put, List.setIfInBounds_toArray, List.set_cons_zero, List.set_cons_succ]
              refine wpAnyH_take (i := 11) (v := ?_) rfl (by kernel_rfl) (by kernel_rfl) (by kernel_rfl) (fun _ _ _ h => h) (Or.inl ⟨by rfl, ?_⟩) (by assumption) ?_
              rotate_left
              · (intro wq hq; clear hq; go_simp; try with_reducible rfl)
              simp only [List.getElem_toArray, List.getElem_cons_succ, List.getElem_cons_zero, Act.put, List.setIfInBounds_toArray, List.set_cons_zero, List.set_cons_succ]
              refine wpAnyH_take (i := 12) (v := ?_) rfl (by kernel_rfl) (by kernel_rfl) (by kernel_rfl) (fun _ _ _ h => h) (Or.inl ⟨by rfl, ?_⟩) (by assumption) ?_
              rotate_left
              · (intro wq hq; have hx := (hq.cell (p := ⟨N, 0, none⟩) hNW).trans t0; clear hq; go_simp; try with_reducible rfl)
              simp only [List.getElem_toArray, List.getElem_cons_succ, List.getElem_cons_zero, Act.put, List.setIfInBounds_toArray, List.set_cons_zero, List.set_cons_succ]
              refine wpAnyH_take (i := 13) (v := ?_) rfl (by kernel_rfl) (by kernel_rfl) (by kernel_rfl) (fun _ _ _ h => h) (Or.inl ⟨by rfl, ?_⟩) (by assumption) ?_
              rotate_left
              · (intro wq hq; clear hq; go_simp; try with_reducible rfl)
              simp only [List.getElem_toArray, List.getElem_cons_succ, List.getElem_cons_zero, Act.put, List.setIfInBounds_toArray, List.set_cons_zero, List.set_cons_succ]
              refine wpAnyH_take (i := 14) (v := ?_) rfl (by kernel_rfl) (by kernel_rfl) (by kernel_rfl) (fun _ _ _ h => h) (Or.inl ⟨by rfl, ?_⟩) (by assumption) ?_
              rotate_left
              · (intro wq hq; clear hq; go_simp; try with_reducible rfl)
              simp only [List.getElem_toArray, List.getElem_cons_succ, List.getElem_cons_zero, Act.put, List.setIfInBounds_toArray, List.set_cons_zero, List.set_cons_succ]
              refine wpAnyH_take (i := 15) (v := undef) rfl (by kernel_rfl) (by kernel_rfl) (by kernel_rfl) (fun _ _ _ h => h) (Or.inr ⟨by rfl, rfl⟩) (by assumption) ?_
              simp only [List.getElem_toArray, List.getElem_cons_succ, List.getElem_cons_zero, Act.put, List.setIfInBounds_toArray, List.set_cons_zero, List.set_cons_succ]
              refine wpAnyH_take (i := 16) (v := undef) rfl (by kernel_rfl) (by kernel_rfl) (by kernel_rfl) (fun _ _ _ h => h) (Or.inr ⟨by rfl, rfl⟩) (by assumption) ?_
              simp only [List.getElem_toArray, List.getElem_cons_succ, List.getElem_cons_zero, Act.put, List.setIfInBounds_toArray, List.set_cons_zero, List.set_cons_succ]
              refine wpAnyH_take (i := 17) (v := undef) rfl (by kernel_rfl) (by kernel_rfl) (by kernel_rfl) (fun _ _ _ h => h) (Or.inr ⟨by rfl, rfl⟩) (by assumption) ?_
              simp only [List.getElem_toArray, List.getElem_cons_succ, List.getElem_cons_zero, Act.put, List.setIfInBounds_toArray, List.set_cons_zero, List.set_cons_succ]
              refine wpAnyH_take (i := 18) (v := undef) rfl (by kernel_rfl) (by kernel_rfl) (by kernel_rfl) (fun _ _ _ h => h) (Or.inr ⟨by rfl, rfl⟩) (by assumption) ?_
              simp only [List.getElem_toArray, List.getElem_cons_succ, List.getElem_cons_zero, Act.put, List.setIfInBounds_toArray, List.set_cons_zero, List.set_cons_succ]
              refine wpAnyH_take (i := 19) (v := ?_) rfl (by kernel_rfl) (by kernel_rfl) (by kernel_rfl) (fun _ _ _ h => h) (Or.inl ⟨by rfl, ?_⟩) (by assumption) ?_
              rotate_left
              · (intro wq hq; clear hq; go_simp; try with_reducible rfl)
              simp only [List.getElem_toArray, List.getElem_cons_succ, List.getElem_cons_zero, Act.put, List.setIfInBounds_toArray, List.set_cons_zero, List.set_cons_succ]
              refine wpAnyH_take (i := 20) (v := ?_) rfl (by kernel_rfl) (by kernel_rfl) (by kernel_rfl) (fun _ _ _ h => h) (Or.inl ⟨by rfl, ?_⟩) (by assumption) ?_
              rotate_left
              · (intro wq hq; clear hq; go_simp; try with_reducible rfl)
              simp only [List.getElem_toArray, List.getElem_cons_succ, List.getElem_cons_zero, Act.put, List.setIfInBounds_toArray, List.set_cons_zero, List.set_cons_succ]
              refine wpAnyH_take (i := 21) (v := ?_) rfl (by kernel_rfl) (by kernel_rfl) (by kernel_rfl) (fun _ _ _ h => h) (Or.inl ⟨by rfl, ?_⟩) (by assumption) ?_
              rotate_left
              · (intro wq hq; clear hq; go_simp; try with_reducible rfl)
              simp only [List.getElem_toArray, List.getElem_cons_succ, List.getElem_cons_zero, Act.put, List.setIfInBounds_toArray, List.set_cons_zero, List.set_cons_succ]
              refine wpAnyH_take (i := 22) (v := ?_) rfl (by kernel_rfl) (by kernel_rfl) (by kernel_rfl) (fun _ _ _ h => h) (Or.inl ⟨by rfl, ?_⟩) (by assumption) ?_
              rotate_left
              · (intro wq hq; clear hq; go_simp; try with_reducible rfl)
              simp only [List.getElem_toArray, List.getElem_cons_succ, List.getElem_cons_zero, Act.put, List.setIfInBounds_toArray, List.set_cons_zero, List.set_cons_succ]
              refine wpAnyH_take (i := 23) (v := ?_) rfl (by kernel_rfl) (by kernel_rfl) (by kernel_rfl) (fun _ _ _ h => h) (Or.inl ⟨by rfl, ?_⟩) (by assumption) ?_
              rotate_left
              · (intro wq hq; clear hq; go_simp; try with_reducible rfl)
              simp only [List.getElem_toArray, List.getElem_cons_succ, List.getElem_cons_zero, Act.put, List.setIfInBounds_toArray, List.set_cons_zero, List.set_cons_succ]
              refine wpAnyH_take (i := 24) (v := ?_) rfl (by kernel_rfl) (by kernel_rfl) (by kernel_rfl) (fun _ _ _ h => h) (Or.inl ⟨by rfl, ?_⟩) (by assumption) ?_
              rotate_left
              · (intro wq hq; clear hq; go_simp; try with_reducible rfl)
              simp only [List.getElem_toArray, List.getElem_cons_succ, List.getElem_cons_zero, Act.put, List.setIfInBounds_toArray, List.set_cons_zero, List.set_cons_succ]
              refine wpAnyH_take (i := 25) (v := ?_) rfl (by kernel_rfl) (by kernel_rfl) (by kernel_rfl) (fun _ _ _ h => h) (Or.inl ⟨by rfl, ?_⟩) (by assumption) ?_
              rotate_left
              · (intro wq hq; have hx := (hq.cell (p := ⟨N, 1, none⟩) hNW).trans t1; clear hq; go_simp; try with_reducible rfl)
              simp only [List.getElem_toArray, List.getElem_cons_succ, List.getElem_cons_zero, Act.put, List.setIfInBounds_toArray, List.set_cons_zero, List.set_cons_succ]
              refine wpAnyH_ready (rs := [26]) (by kernel_rfl) (by simp) ?_
              refine AllReadyH.cons rfl (fun K hK => ?_) AllReadyH.nil
              go_simp
              go_at_call 19; refine (refIsWord_from W _ y (by omega) (by assumption) HW.out).mono ?_; rintro e w6 ⟨rfl, b6⟩
              go_wp2_with fail
              refine hK.out _ _ b6 (fun _ => ?_)
              clear hK K
              refine wpAnyH_take (i := 27) (v := ?_) rfl (by kernel_rfl) (by kernel_rfl) (by kernel_rfl) (fun _ _ _ h => h) (Or.inl ⟨by rfl, ?_⟩) (by assumption) ?_
              rotate_left
              · (intro wq hq; clear hq; go_simp; try with_reducible rfl)
              simp only [List.getElem_toArray, List.getElem_cons_succ, List.getElem_cons_zero, Act.put, List.setIfInBounds_toArray, List.set_cons_zero, List.set_cons_succ]
              refine wpAnyH_take (i := 28) (v := ?_) rfl (by kernel_rfl) (by kernel_rfl) (by kernel_rfl) (fun _ _ _ h => h) (Or.inl ⟨by rfl, ?_⟩) (by assumption) ?_
              rotate_left
              · (intro wq hq; clear hq; go_simp; try with_reducible rfl)
              simp only [List.getElem_toArray, List.getElem_cons_succ, List.getElem_cons_zero, Act.put, List.setIfInBounds_toArray, List.set_cons_zero, List.set_cons_succ]
              refine wpAnyH_take (i := 29) (v := ?_) rfl (by kernel_rfl) (by kernel_rfl) (by kernel_rfl) (fun _ _ _ h => h) (Or.inl ⟨by rfl, ?_⟩) (by assumption) ?_
              rotate_left
              · (intro wq hq; clear hq; go_simp; try with_reducible rfl)
              simp only [List.getElem_toArray, List.getElem_cons_succ, List.getElem_cons_zero, Act.put, List.setIfInBounds_toArray, List.set_cons_zero, List.set_cons_succ]
              refine wpAnyH_take (i := 30) (v := ?_) rfl (by kernel_rfl) (by kernel_rfl) (by kernel_rfl) (fun _ _ _ h => h) (Or.inl ⟨by rfl, ?_⟩) (by assumption) ?_
              rotate_left
              · (intro wq hq; clear hq; go_simp; try with_reducible rfl)
              simp only [List.getElem_toArray, List.getElem_cons_succ, List.getElem_cons_zero, Act.put, List.setIfInBounds_toArray, List.set_cons_zero, List.set_cons_succ]
              refine wpAnyH_take (i := 31) (v := ?_) rfl (by kernel_rfl) (by kernel_rfl) (by kernel_rfl) (fun _ _ _ h => h) (Or.inl ⟨by rfl, ?_⟩) (by assumption) ?_
              rotate_left
              · (intro wq hq; clear hq; go_simp; try with_reducible rfl)
              simp only [List.getElem_toArray, List.getElem_cons_succ, List.getElem_cons_zero, Act.put, List.setIfInBounds_toArray, List.set_cons_zero, List.set_cons_succ]
              refine wpAnyH_take (i := 32) (v := ?_) rfl (by kernel_rfl) (by kernel_rfl) (by kernel_rfl) (fun _ _ _ h => h) (Or.inl ⟨by rfl, ?_⟩) (by assumption) ?_
              rotate_left
              · (intro wq hq; clear hq; go_simp; try with_reducible rfl)
              simp only [List.getElem_toArray, List.getElem_cons_succ, List.getElem_cons_zero, Act.put, List.setIfInBounds_toArray, List.set_cons_zero, List.set_cons_succ]
              refine wpAnyH_take (i := 33) (v := undef) rfl (by kernel_rfl) (by kernel_rfl) (by kernel_rfl) (fun _ _ _ h => h) (Or.inr ⟨by rfl, rfl⟩) (by assumption) ?_
              simp only [List.getElem_toArray, List.getElem_cons_succ, List.getElem_cons_zero, Act.put, List.setIfInBounds_toArray, List.set_cons_zero, List.set_cons_succ]
              refine wpAnyH_take (i := 34) (v := undef) rfl (by kernel_rfl) (by kernel_rfl) (by kernel_rfl) (fun _ _ _ h => h) (Or.inr ⟨by rfl, rfl⟩) (by assumption) ?_
              simp only [List.getElem_toArray, List.getElem_cons_succ, List.getElem_cons_zero, Act.put, List.setIfInBounds_toArray, List.set_cons_zero, List.set_cons_succ]
              refine wpAnyH_take (i := 35) (v := undef) rfl (by kernel_rfl) (by kernel_rfl) (by kernel_rfl) (fun _ _ _ h => h) (Or.inr ⟨by rfl, rfl⟩) (by assumption) ?_
              simp only [List.getElem_toArray, List.getElem_cons_succ, List.getElem_cons_zero, Act.put, List.setIfInBounds_toArray, List.set_cons_zero, List.set_cons_succ]
              refine wpAnyH_take (i := 36) (v := undef) rfl (by kernel_rfl) (by kernel_rfl) (by kernel_rfl) (fun _ _ _ h => h) (Or.inr ⟨by rfl, rfl⟩) (by assumption) ?_
              simp only [List.getElem_toArray, List.getElem_cons_succ, List.getElem_cons_zero, Act.put, List.setIfInBounds_toArray, List.set_cons_zero, List.set_cons_succ]
              refine wpAnyH_take (i := 37) (v := ?_) rfl (by kernel_rfl) (by kernel_rfl) (by kernel_rfl) (fun _ _ _ h => h) (Or.inl ⟨by rfl, ?_⟩) (by assumption) ?_
              rotate_left
              · (intro wq hq; clear hq; go_simp; try with_reducible rfl)
              simp only [List.getElem_toArray, List.getElem_cons_succ, List.getElem_cons_zero, Act.put, List.setIfInBounds_toArray, List.set_cons_zero, List.set_cons_succ]
              refine wpAnyH_take (i := 38) (v := ?_) rfl (by kernel_rfl) (by kernel_rfl) (by kernel_rfl) (fun _ _ _ h => h) (Or.inl ⟨by rfl, ?_⟩) (by assumption) ?_
              rotate_left
              · (intro wq hq; clear hq; go_simp; try with_reducible rfl)
              simp only [List.getElem_toArray, List.getElem_cons_succ, List.getElem_cons_zero, Act.put, List.setIfInBounds_toArray, List.set_cons_zero, List.set_cons_succ]
              refine wpAnyH_done (by kernel_rfl) ?_ _
              go_wp2
              refine ⟨⟨k + 1, by simp, by omega, HBW.out.trans (b6.mono HBW.out.size)⟩, by simp [intOf]; omega⟩
            · skip
              have p97 : decide ((97 : Int) ≤ C) = false := by simp; omega
              have p122 : decide (C ≤ (122 : Int)) = true := by simp; omega
              have p48 : decide ((48 : Int) ≤ C) = true := by simp; omega
              have p57 : decide (C ≤ (57 : Int)) = false := by simp; omega
              have p65 : decide ((65 : Int) ≤ C) = true := by simp; omega
              have p90 : decide (C ≤ (90 : Int)) = true := by simp; omega
              have p34 : (C == 34) = false := by rw [beq_eq_false_iff_ne]; omega
              clear hC hc1 hc2 hc256
              have HTG := Lib.hid (fun w => refIsTag y w (by omega))
              simp only [htg] at HTG
              have HBW := Lib.hid BW
              clear TKB BW
              clear htg
              go_wp2_with fail
              go_quiet ((go_at_call 18; exact quiet_left (HTG.out _)))
              go_wp2_with fail
              refine ⟨⟨k + 1, by simp, by omega, below_drewN' HBW.out _⟩, by simp [intOf]; omega⟩
            · skip
              have p97 : decide ((97 : Int) ≤ C) = false := by simp; omega
              have p122 : decide (C ≤ (122 : Int)) = true := by simp; omega
              have p48 : decide ((48 : Int) ≤ C) = true := by simp; omega
              have p57 : decide (C ≤ (57 : Int)) = true := by simp; omega
              have p65 : decide ((65 : Int) ≤ C) = false := by simp; omega
              have p90 : decide (C ≤ (90 : Int)) = true := by simp; omega
              have p34 : (C == 34) = false := by rw [beq_eq_false_iff_ne]; omega
              clear hC hc1 hc2 hc256
              have h18 : (y.size : Int) ≤ 18 := by rw [size_data] at h18; omega
              have HBW := Lib.hid BW
              clear TKB BW
              go_wp2_with fail
              go_quiet (fail)
              go_wp2_with fail
              refine ⟨⟨k + 1, by simp, by omega, below_drewN' HBW.out _⟩, by simp [intOf]; omega⟩
            · skip
              have p97 : decide ((97 : Int) ≤ C) = false := by simp; omega
              have p122 : decide (C ≤ (122 : Int)) = true := by simp; omega
              have p48 : decide ((48 : Int) ≤ C) = false := by simp; omega
              have p57 : decide (C ≤ (57 : Int)) = true := by simp; omega
              have p65 : decide ((65 : Int) ≤ C) = false := by simp; omega
              have p90 : decide (C ≤ (90 : Int)) = true := by simp; omega
              have p34 : (C == 34) = true := by rw [beq_iff_eq]; omega
              clear hC hc1 hc256
              have HBW := Lib.hid BW
              clear TKB BW
              go_wp2_with fail
              go_quiet (fail)
              go_wp2_with fail
              refine ⟨⟨k + 1, by simp, by omega, below_drewN' HBW.out _⟩, by simp [intOf]; omega⟩
            · skip
              rcases (show c.toNat < 48 ∨ (58 ≤ c.toNat ∧ c.toNat ≤ 64) ∨ (91 ≤ c.toNat ∧ c.toNat ≤ 96) ∨ 123 ≤ c.toNat by omega) with hd | ⟨hd, hd2⟩ | ⟨hd, hd2⟩ | hd
              · skip
                have p97 : decide ((97 : Int) ≤ C) = false := by simp; omega
                have p122 : decide (C ≤ (122 : Int)) = true := by simp; omega
                have p48 : decide ((48 : Int) ≤ C) = false := by simp; omega
                have p57 : decide (C ≤ (57 : Int)) = true := by simp; omega
                have p65 : decide ((65 : Int) ≤ C) = false := by simp; omega
                have p90 : decide (C ≤ (90 : Int)) = true := by simp; omega
                have p34 : (C == 34) = false := by rw [beq_eq_false_iff_ne]; omega
                clear hC hc1 hc2 hc3 hc4 hc256 hd
                have HBW := Lib.hid BW
                clear TKB BW
                go_wp2_with fail
                go_quiet (fail)
                go_wp2_with fail
                refine ⟨⟨k + 1, by simp, by omega, below_drewN' HBW.out _⟩, by simp [intOf]; omega⟩
              · skip
                have p97 : decide ((97 : Int) ≤ C) = false := by simp; omega
                have p122 : decide (C ≤ (122 : Int)) = true := by simp; omega
                have p48 : decide ((48 : Int) ≤ C) = true := by simp; omega
                have p57 : decide (C ≤ (57 : Int)) = false := by simp; omega
                have p65 : decide ((65 : Int) ≤ C) = false := by simp; omega
                have p90 : decide (C ≤ (90 : Int)) = true := by simp; omega
                have p34 : (C == 34) = false := by rw [beq_eq_false_iff_ne]; omega
                clear hC hc1 hc2 hc3 hc4 hc256 hd hd2
                have HBW := Lib.hid BW
                clear TKB BW
                go_wp2_with fail
                go_quiet (fail)
                go_wp2_with fail
                refine ⟨⟨k + 1, by simp, by omega, below_drewN' HBW.out _⟩, by simp [intOf]; omega⟩
              · skip
                have p97 : decide ((97 : Int) ≤ C) = false := by simp; omega
                have p122 : decide (C ≤ (122 : Int)) = true := by simp; omega
                have p48 : decide ((48 : Int) ≤ C) = true := by simp; omega
                have p57 : decide (C ≤ (57 : Int)) = false := by simp; omega
                have p65 : decide ((65 : Int) ≤ C) = true := by simp; omega
                have p90 : decide (C ≤ (90 : Int)) = false := by simp; omega
                have p34 : (C == 34) = false := by rw [beq_eq_false_iff_ne]; omega
                clear hC hc1 hc2 hc3 hc4 hc256 hd hd2
                have HBW := Lib.hid BW
                clear TKB BW
                go_wp2_with fail
                go_quiet (fail)
                go_wp2_with fail
                refine ⟨⟨k + 1, by simp, by omega, below_drewN' HBW.out _⟩, by simp [intOf]; omega⟩
              · skip
                have p97 : decide ((97 : Int) ≤ C) = true := by simp; omega
                have p122 : decide (C ≤ (122 : Int)) = false := by simp; omega
                have p48 : decide ((48 : Int) ≤ C) = true := by simp; omega
                have p57 : decide (C ≤ (57 : Int)) = false := by simp; omega
                have p65 : decide ((65 : Int) ≤ C) = true := by simp; omega
                have p90 : decide (C ≤ (90 : Int)) = false := by simp; omega
                have p34 : (C == 34) = false := by rw [beq_eq_false_iff_ne]; omega
                clear hC hc1 hc2 hc3 hc4 hc256 hd
                have HBW := Lib.hid BW
                clear TKB BW
                go_wp2_with fail
                go_quiet (fail)
                go_wp2_with fail
                refine ⟨⟨k + 1, by simp, by omega, below_drewN' HBW.out _⟩, by simp [intOf]; omega⟩
        · have hlt' : ¬ (k : Int) < ts.length := by omega
          go_wp2_with fail
          refine (alive _ (HE.out.below (HB3.out.trans (HBr.out.mono HB3.out.size)))).mono ?_
          rintro e w5 ⟨rfl, b5⟩
          dsimp only
          go_wp2
          go_ret
          exact ⟨rfl, (HB3.out.trans (HBr.out.mono HB3.out.size)).trans (b5.mono (by have := HB3.out.size; have := HBr.out.size; omega))⟩
end Lxw
end Go.Proofs.YtelejpajnemmfaaDoor
