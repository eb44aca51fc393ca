/-
  DERIVED. THE STATEMENT LexWhole, WALKED.
-/
import Derived.Test.YtelejpajnemmfaaDoorLxAlive
namespace Go.Proofs.YtelejpajnemmfaaDoor
open Go.RowKit
namespace Lxw
open Gl Lx Glw

/-- From token i on, the place p being reached. -/
def WRel (S : List UInt8) (ts : List Tok) (i p : Nat) : Prop := (i < ts.length ∧ Whole S p (ts.drop i)) ∨ (i = ts.length ∧ p = S.length)

theorem scan_step (S : List UInt8) (m : Bool) (k lo : Nat) (hk : k < lo) (c : UInt8) (hc : S[k]? = some c) (h : scanB m ((S.drop k).take (lo - k)) = true) :
    ((((m && c.toNat != 10) || c.toNat == 35) || blankB c) = true) ∧ scanB ((m && c.toNat != 10) || c.toNat == 35) ((S.drop (k + 1)).take (lo - (k + 1))) = true := by
  have hlt : k < S.length := (List.getElem?_eq_some_iff.1 hc).1
  have hd : S.drop k = c :: S.drop (k + 1) := by
    rw [List.drop_eq_getElem_cons hlt]
    congr 1
    exact (List.getElem?_eq_some_iff.1 hc).2
  rw [hd, show lo - k = (lo - (k + 1)) + 1 from by omega, List.take_succ_cons] at h
  simp only [scanB, Bool.and_eq_true] at h
  exact h

theorem whole_at {S : List UInt8} {ts : List Tok} {i p : Nat} (h : i < ts.length) (hw : Whole S p (ts.drop i)) : ∃ t, ts[i]? = some t ∧ p ≤ t.lo ∧ t.lo ≤ t.hi ∧ t.hi ≤ S.length ∧ (t.lo = t.hi ↔ i + 1 = ts.length) ∧ (t.kind = 0 ↔ i + 1 = ts.length) ∧
    scanB false ((S.drop p).take (t.lo - p)) = true ∧ (t.kind ≠ 4 → t.text = (S.drop t.lo).take (t.hi - t.lo)) ∧ WRel S ts (i + 1) t.hi := by
  have hd : ts.drop i = ts[i] :: ts.drop (i + 1) := List.drop_eq_getElem_cons h
  rw [hd] at hw
  obtain ⟨h1, h2, h3, h4, h5, h6, h7, h8, h9⟩ := hw
  have he : ts.drop (i + 1) = [] ↔ i + 1 = ts.length := by rw [List.drop_eq_nil_iff]; omega
  refine ⟨ts[i], List.getElem?_eq_getElem h, h1, h2, h3, h4.trans he, h5.trans he, h6, h7, ?_⟩
  by_cases hl : i + 1 = ts.length
  · exact .inr ⟨hl, h8 (he.2 hl)⟩
  · exact .inl ⟨by omega, h9 fun e => hl (he.1 e)⟩

set_option maxHeartbeats 4000000 in
set_option maxRecDepth 100000 in
theorem law_whole (s : ByteArray) (w : World) (hE : Env w) : Calls Tryd.prog 6 #[.string s] w fun e w' => e = .returned (.bool true) ∧ Below w.heap.size w w' := by
  have HE := Lib.hid hE
  clear hE
  by_cases h : 3000 < s.size
  · have h' : (3000 : Int) < s.size := by omega
    go_enter Tryd.func6, Tryd.ntmps6
    go_wp2_with fail
    refine (alive _ HE.out).mono ?_
    rintro e w1 ⟨rfl, b1⟩
    dsimp only
    go_wp2
    go_ret
    exact ⟨rfl, b1⟩
  · have h' : (s.size : Int) ≤ 3000 := by omega
    have hs : s.size ≤ 100000 := by omega
    clear h
    cases hA : tokL 0 s.data.toList with
    | inl p =>
      have HA := Lib.hid hA
      clear hA
      go_enter Tryd.func6, Tryd.ntmps6
      go_wp2_with fail
      refine (Tokens_no s _ hs HE.out p HA.out).mono ?_
      rintro e w1 ⟨rfl, b1⟩
      have HB := Lib.hid b1
      clear b1
      dsimp only
      go_wp2_with fail
      refine (alive _ (HE.out.below HB.out)).mono ?_
      rintro e w2 ⟨rfl, b2⟩
      dsimp only
      go_wp2
      go_ret
      exact ⟨rfl, HB.out.trans (b2.mono HB.out.size)⟩
    | inr ts =>
      have hmany := tokL_many _ 0 ts hA
      rw [size_data] at hmany
      have hpos : 0 < ts.length := List.length_pos_iff.2 (tokL_ne hA)
      have hwhole := tokL_whole s.data.toList _ s.data.toList 0 ts (Nat.le_refl _) rfl (Nat.zero_le _) hA
      have HWH := Lib.hid hwhole
      have HA := Lib.hid hA
      have hpos' : (0 : Int) < ts.length := by omega
      have hn1 : (ts.length : Int) ≤ 100001 := by omega
      clear hA hwhole hmany
      go_enter Tryd.func6, Tryd.ntmps6
      go_wp2_with fail
      refine (Tokens_ok s _ hs HE.out ts HA.out).mono ?_
      rintro e w3 ⟨g, cap, rfl, hg, hR, b1⟩
      have HR3 := Lib.hid hR
      have HB3 := Lib.hid b1
      clear hR b1 hg
      dsimp only
      go_wp2_with fail
      go_loopw [6, 7] (fun a i wr => ∃ k p : Nat, a = .int .i64 p ∧ i = .int .i64 k ∧ k ≤ ts.length ∧ p ≤ s.size ∧ WRel s.data.toList ts k p ∧ Below w3.heap.size w3 wr) (fun _ i _ => ts.length - (intOf i).toNat)
      case atStart => exact ⟨0, 0, rfl, rfl, Nat.zero_le _, Nat.zero_le _, .inl ⟨hpos, HWH.out⟩, Below.refl _ _⟩
      case round =>
        clear HWH
        obtain ⟨i, p, rfl, rfl, hi, hps, hwr, hB⟩ := hrel
        have HBr := Lib.hid hB
        have HR4 := Lib.hid (HR3.out.below hB)
        have hbw := hB.size
        clear hB
        by_cases hlt : i < ts.length
        · have hw : Whole s.data.toList p (ts.drop i) := by
            rcases hwr with ⟨_, h⟩ | ⟨h, _⟩
            · exact h
            · omega
          obtain ⟨t, ht, h1, h2, h3, h4, h5, h6, h7, h8⟩ := whole_at hlt hw
          rw [size_data] at h3
          obtain ⟨e0, e1, e2, e3⟩ := HR4.out.2 i (t4 t) (by rw [List.getElem?_map, ht]; rfl)
          rw [Nat.zero_add] at e0 e1 e2 e3
          simp only [t4] at e0 e1 e2 e3
          have H6 := Lib.hid h6
          have H8 := Lib.hid h8
          have hlt' : (i : Int) < ts.length := by omega
          have hi0 : (0 : Int) ≤ i := by omega
          have hn0 : (1 : Int) ≤ ts.length := by omega
          obtain ⟨L, hL⟩ : ∃ L : Bool, decide (i + 1 = ts.length) = L := ⟨_, rfl⟩
          have q1 : ((t.hi : Int) == (t.lo : Int)) = L := by
            rw [← hL, Bool.eq_iff_iff, beq_iff_eq, decide_eq_true_iff, ← h4]; omega
          have q2 : ((i : Int) == (ts.length : Int) - 1) = L := by
            rw [← hL, Bool.eq_iff_iff, beq_iff_eq, decide_eq_true_iff]; omega
          have q3 : ((t.kind : Int) == 0) = L := by
            rw [← hL, Bool.eq_iff_iff, beq_iff_eq, decide_eq_true_iff, ← h5]; omega
          obtain ⟨y, hy⟩ : ∃ y : ByteArray, (⟨t.text.toArray⟩ : ByteArray) = y := ⟨_, rfl⟩
          rw [hy] at e1
          have hty : t.kind ≠ 4 → y = s.extract t.lo t.hi := by
            intro h
            rw [← hy, h7 h]
            exact (of_data (ext_data s t.lo t.hi)).symm
          have HTY := Lib.hid hty
          generalize t.kind = K at e0 q3 HTY
          generalize t.lo = lo at e2 q1 h1 h2 H6 HTY
          generalize t.hi = hi at e3 q1 h2 h3 H8 HTY
          clear hL h4 h5 h6 h7 h8 ht hw hwr hy hty
          have d1 : (p : Int) ≤ lo := by omega
          have d2 : (lo : Int) ≤ hi := by omega
          have d3 : (hi : Int) ≤ s.size := by omega
          have d4 : (0 : Int) ≤ lo := by omega
          go_wp2_with fail
          have TKB : Tk (wr.alloc (.cells #[.int .i64 K, .string y, .int .i64 lo, .int .i64 hi] 31)) wr.heap.size K y lo hi := heap_alloc_new wr _
          have BW : Below w3.heap.size w3 (wr.alloc (.cells #[.int .i64 K, .string y, .int .i64 lo, .int .i64 hi] 31)) := HBr.out.alloc hbw _
          obtain ⟨N, hN⟩ : ∃ N, wr.heap.size = N := ⟨_, rfl⟩
          rw [hN] at TKB ⊢
          generalize wr.alloc (.cells #[.int .i64 K, .string y, .int .i64 lo, .int .i64 hi] 31) = W at TKB BW ⊢
          have t0 := TKB.cell0
          have t1 := TKB.cell1
          have t2 := TKB.cell2
          have t3 := TKB.cell3
          have HBW := Lib.hid BW
          clear TKB BW hN e0 e1 e2 e3 hbw
          go_loop [9, 10] (fun r k => ∃ (m : Bool) (j : Nat), r = .bool m ∧ k = .int .i64 j ∧ p ≤ j ∧ j ≤ lo ∧ scanB m ((s.data.toList.drop j).take (lo - j)) = true) (fun _ k => lo - (intOf k).toNat)
          case atStart => exact ⟨false, p, rfl, rfl, Nat.le_refl _, h1, H6.out⟩
          case round =>
            obtain ⟨m, j, rfl, rfl, hpj, hjl, hsc⟩ := hrel
            have HSC := Lib.hid hsc
            clear hsc H6
            by_cases hj : j < lo
            · have hj' : (j : Int) < lo := by omega
              have hj0 : (0 : Int) ≤ j := by omega
              have hjs : j < s.size := by omega
              have hjs' : (j : Int) < s.size := by omega
              have hg := get_lt s j hjs
              obtain ⟨hs1, hs2⟩ := scan_step s.data.toList m j lo hj (s.get! j) (get_data s j hjs) HSC.out
              obtain ⟨c, hc⟩ : ∃ c, s.get! j = c := ⟨_, rfl⟩
              rw [hc] at hs1 hs2 hg
              obtain ⟨m', hm'⟩ : ∃ m' : Bool, ((m && c.toNat != 10) || c.toNat == 35) = m' := ⟨_, rfl⟩
              rw [hm'] at hs1 hs2
              have HS2 := Lib.hid hs2
              obtain ⟨C, hC⟩ : ∃ C : Int, (c.toNat : Int) = C := ⟨_, rfl⟩
              have hgC : (((s[j]'hjs).toNat : Nat) : Int) = C := by rw [hg, hC]
              obtain ⟨b10, h10⟩ : ∃ b, (c.toNat == 10) = b := ⟨_, rfl⟩
              obtain ⟨b35, h35⟩ : ∃ b, (c.toNat == 35) = b := ⟨_, rfl⟩
              obtain ⟨b32, h32⟩ : ∃ b, (c.toNat == 32) = b := ⟨_, rfl⟩
              obtain ⟨b9, h9⟩ : ∃ b, (c.toNat == 9) = b := ⟨_, rfl⟩
              have q10 : (C != 10) = !b10 := by rw [← h10, ← hC, Bool.eq_iff_iff, bne_iff_ne, Bool.not_eq_true', beq_eq_false_iff_ne]; omega
              have q35 : (C == 35) = b35 := by rw [← h35, ← hC, Bool.eq_iff_iff, beq_iff_eq, beq_iff_eq]; omega
              have q32 : (C != 32) = !b32 := by rw [← h32, ← hC, Bool.eq_iff_iff, bne_iff_ne, Bool.not_eq_true', beq_eq_false_iff_ne]; omega
              have q9 : (C != 9) = !b9 := by rw [← h9, ← hC, Bool.eq_iff_iff, bne_iff_ne, Bool.not_eq_true', beq_eq_false_iff_ne]; omega
              have hm2 : (m && !b10 || b35) = m' := by rw [← hm', ← h10, ← h35]; rfl
              have hbl : (m' || (b32 || b9 || b10)) = true := by rw [← h32, ← h9, ← h10]; exact hs1
              clear hs1 hs2 hm' h10 h35 h32 h9 hg hC hc
              rw [show (s[j]'hjs).toNat = (s[j]'hjs).toNat from rfl] at hgC
              cases m <;> cases b10 <;> cases b35 <;> cases b32 <;> cases b9 <;> simp only [Bool.not_true, Bool.not_false, Bool.and_true, Bool.and_false, Bool.or_true, Bool.or_false] at hm2 hbl q10 q32 q9 <;> subst hm2 <;> first | (exact absurd hbl (by decide)) | skip
              all_goals
                go_wp2
                refine ⟨⟨_, j + 1, rfl, by simp, by omega, by omega, HS2.out⟩, by simp [intOf]; omega⟩
            · obtain rfl : j = lo := by omega
              have hj' : ¬ (j : Int) < j := by omega
              clear HSC
              by_cases hK : K = 4
              · have k4 : ((K : Int) != 4) = false := by rw [hK]; rfl
                go_wp2
                go_quiet (fail)
                go_wp2
                refine ⟨⟨i + 1, hi, rfl, by simp, by omega, h3, H8.out, below_drewN' HBW.out _⟩, by simp [intOf]; omega⟩
              · have k4 : ((K : Int) != 4) = true := by rw [bne_iff_ne]; omega
                have hy2 := HTY.out hK
                subst hy2
                go_wp2
                go_quiet (fail)
                go_wp2
                refine ⟨⟨i + 1, hi, rfl, by simp, by omega, h3, H8.out, below_drewN' HBW.out _⟩, by simp [intOf]; omega⟩
        · obtain rfl : i = ts.length := by omega
          have hp : p = s.size := by
            rcases hwr with ⟨h, _⟩ | ⟨_, h⟩
            · omega
            · rw [h, size_data]
          subst hp
          have hlt' : ¬ (ts.length : Int) < ts.length := by omega
          clear hwr
          go_wp2_with fail
          refine (alive _ (HE.out.below (HB3.out.trans (HBr.out.mono HB3.out.size)))).mono ?_
          rintro e w5 ⟨rfl, b5⟩
          dsimp only
          go_wp2
          go_ret
          exact ⟨rfl, (HB3.out.trans (HBr.out.mono HB3.out.size)).trans (b5.mono (by have := HB3.out.size; have := HBr.out.size; omega))⟩
end Lxw
end Go.Proofs.YtelejpajnemmfaaDoor
