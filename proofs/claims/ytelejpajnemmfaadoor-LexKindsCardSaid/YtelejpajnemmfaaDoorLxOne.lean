/-
  DERIVED. LAYER 2 (lex): the token at a place, by the reference, walked.
-/
import Derived.Test.YtelejpajnemmfaaDoorLxJoin
import Derived.Test.YtelejpajnemmfaaDoorGlRefUnq
namespace Go.Proofs.YtelejpajnemmfaaDoor
open Go.RowKit
namespace Lxw
open Gl Lx Glw

theorem below_set {B : Nat} {a w : World} (h : Below B a w) (g i : Nat) (hg : B ≤ g) (v : Value) : Below B a (w.setCell ⟨g, i, none⟩ v) := h.setCell hg v
theorem refUnq (s : ByteArray) (w : World) (hs : s.size ≤ 17592186044416) (x : List UInt8) (n e : Int) (h : unquoteL s.data.toList = (x, n, e)) :
    Calls Tryd.prog 43 #[.string s] w fun en w' => en = .returned (.tuple #[.string ⟨x.toArray⟩, .int .i64 n, .int .i64 e]) ∧ Below w.heap.size w w' := by
  have := refUnquote s w hs
  rw [h] at this
  exact this

set_option maxHeartbeats 2000000 in
set_option maxRecDepth 100000 in
theorem one_quote (s : ByteArray) (pos : Nat) (w : World) (h0 : pos < s.size) (hs : s.size ≤ 17592186044416) (h34 : (s.get! pos).toNat = 34)
    (x : List UInt8) (n er : Int) (hu : unquoteL (s.data.toList.drop pos) = (x, n, er)) (hn0 : 0 ≤ n) (hn : n ≤ s.size) :
    Calls Tryd.prog 24 #[.string s, .int .i64 pos] w fun e w' => e = .returned (.tuple #[.agg #[.int .i64 4, .string ⟨x.toArray⟩, .int .i64 pos, .int .i64 (pos + n)], .bool (er == 0)]) ∧ Below w.heap.size w w' := by
  have d1 : (0 : Int) ≤ pos := by omega
  have d2 : (pos : Int) ≤ s.size := by omega
  have d3 : (pos : Int) < s.size := by omega
  have hg := get_lt s pos h0
  have q34 : ((s[pos]'h0).toNat : Int) = 34 := by rw [hg]; omega
  have hz := Lib.tail_size s pos
  have hzd := ext_tail s pos
  have k1 : IntKind.i64.wrap ((pos : Int) + n) = (pos : Int) + n := IntWalk.i64_in _ (by omega)
  have b2 : Below w.heap.size w (w.alloc (.cells #[.int .i64 0, .string ⟨#[]⟩, .int .i64 0, .int .i64 0] 31)) := (Below.refl _ _).alloc (Nat.le_refl _) _
  have T2 : Tk (w.alloc (.cells #[.int .i64 0, .string ⟨#[]⟩, .int .i64 0, .int .i64 0] 31)) w.heap.size 0 ⟨#[]⟩ 0 0 := heap_alloc_new w _
  rw [← hzd] at hu
  have HU := Lib.hid (fun w => refUnq (s.extract pos s.size) w (by omega) x n er hu)
  have HB2 := Lib.hid b2
  have HT2 := Lib.hid T2
  clear hg hz hzd hu b2 T2
  go_enter Tryd.func24, Tryd.ntmps24
  go_wp2_with fail
  refine (HU.out _).mono ?_
  rintro e w3 ⟨rfl, b3⟩
  have T3 := HT2.out.below b3
  have c3 := HB2.out.trans (b3.mono HB2.out.size)
  have z0 := T3.cell0
  have z1 := T3.cell1
  have z2 := T3.cell2
  have z3 := T3.cell3
  have g0 := T3.frozen 0
  have g1 := T3.frozen 1
  have g2 := T3.frozen 2
  have g3 := T3.frozen 3
  have HT3 := Lib.hid T3
  have HC3 := Lib.hid c3
  clear T3 c3 b3
  dsimp only
  go_wp2
  have Z7 := HT3.out.put4 4 ⟨x.toArray⟩ pos (pos + n)
  have c7 := below_put4 HC3.out w.heap.size (Nat.le_refl _) 4 ⟨x.toArray⟩ pos (pos + n)
  unfold put4 at Z7 c7
  generalize (((w3.setCell ⟨w.heap.size, 0, none⟩ (.int .i64 4)).setCell ⟨w.heap.size, 1, none⟩ (.string ⟨x.toArray⟩)).setCell ⟨w.heap.size, 2, none⟩ (.int .i64 pos)).setCell ⟨w.heap.size, 3, none⟩ (.int .i64 (pos + n)) = W7 at Z7 c7 ⊢
  have y0 := Z7.cell0
  have y1 := Z7.cell1
  have y2 := Z7.cell2
  have y3 := Z7.cell3
  exact bodyPost_ret (v := .tuple #[.agg #[.int .i64 4, .string ⟨x.toArray⟩, .int .i64 pos, .int .i64 (pos + n)], .bool (er == 0)]) (by simp [results, Tryd.results24, go_sem, y0, y1, y2, y3]) rfl ⟨rfl, c7⟩

theorem wordOf_step (s : ByteArray) (p : Nat) (h : p < s.size) : (wordOf (s.data.toList.drop p)).length = if behindB (s.get! p) = true then 1 + (wordOf (s.data.toList.drop (p + 1))).length else 0 := by
  rw [drop_cons s p h]
  unfold wordOf
  rw [List.takeWhile_cons]
  by_cases hb : behindB (s.get! p) = true
  · rw [if_pos hb, if_pos hb, List.length_cons, Nat.add_comm]
  · rw [if_neg hb, if_neg hb]; rfl
theorem wordOf_past (s : ByteArray) (p : Nat) (h : s.size ≤ p) : (wordOf (s.data.toList.drop p)).length = 0 := by
  rw [List.drop_eq_nil_of_le (by rw [size_data]; exact h)]; rfl

theorem figs_step (s : ByteArray) (p T : Nat) (h : p < T) (hT : T ≤ s.size) : ((s.data.toList.drop p).take (T - p)).all figB = (figB (s.get! p) && ((s.data.toList.drop (p + 1)).take (T - (p + 1))).all figB) := by
  rw [drop_cons s p (by omega), show T - p = (T - (p + 1)) + 1 from by omega, List.take_succ_cons, List.all_cons]

theorem oneL_word {l r : List UInt8} {c : UInt8} (hl : l = c :: r) (h34 : ¬ c.toNat = 34) (hw : wordOf l ≠ []) : oneL l = (kindOf (wordOf l)).map fun k => (k, wordOf l, (wordOf l).length) := by
  subst hl
  simp only [oneL]
  rw [if_neg h34, if_neg hw]
theorem oneL_sign {l r : List UInt8} {c : UInt8} (hl : l = c :: r) (h34 : ¬ c.toNat = 34) (hw : wordOf l = []) : oneL l = (signOf l).map fun x => (5, x, x.length) := by
  subst hl
  simp only [oneL]
  rw [if_neg h34, if_pos hw]
theorem nextIs_word {l r : List UInt8} {c : UInt8} {pos p : Nat} {k : Nat} {y : ByteArray} (hl : l = c :: r) (h34 : ¬ c.toNat = 34) (hy : y.data.toList = wordOf l) (hne : y.data.toList ≠ []) (hk : kindOf y.data.toList = some k) (hT : pos + (wordOf l).length = p) :
    NextIs l pos (.returned (.tuple #[.agg #[.int .i64 k, .string y, .int .i64 pos, .int .i64 p], .bool true])) := by
  refine ⟨k, y, p, true, rfl, ?_⟩
  rw [oneL_word hl h34 (by rw [← hy]; exact hne), ← hy, hk]
  exact ⟨rfl, rfl, rfl, by rw [hy, hT]⟩
theorem nextIs_not {l r : List UInt8} {c : UInt8} {pos : Nat} {k p : Int} {y z : ByteArray} (hl : l = c :: r) (h34 : ¬ c.toNat = 34) (hy : y.data.toList = wordOf l) (hne : y.data.toList ≠ []) (hk : kindOf y.data.toList = none) :
    NextIs l pos (.returned (.tuple #[.agg #[.int .i64 k, .string z, .int .i64 pos, .int .i64 p], .bool false])) := by
  refine ⟨k, z, p, false, rfl, ?_⟩
  rw [oneL_word hl h34 (by rw [← hy]; exact hne), ← hy, hk]
  rfl
theorem kindOf_tag {l : List UInt8} (h : tagL l = true) : kindOf l = some 2 := by unfold kindOf; rw [if_pos h]
theorem kindOf_key {l : List UInt8} (h : tagL l = false) (h2 : keysL.contains l = true) : kindOf l = some 6 := by unfold kindOf; rw [if_neg (by rw [h]; decide), if_pos h2]
theorem kindOf_word {l : List UInt8} (h : tagL l = false) (h2 : keysL.contains l = false) (h3 : wordL l = true) : kindOf l = some 1 := by unfold kindOf; rw [if_neg (by rw [h]; decide), if_neg (by rw [h2]; decide), if_pos h3]
theorem kindOf_num {l : List UInt8} (h : tagL l = false) (h2 : keysL.contains l = false) (h3 : wordL l = false) : kindOf l = if (l.all figB && decide (l.length ≤ 18)) = true then some 3 else none := by
  unfold kindOf
  rw [if_neg (by rw [h]; decide), if_neg (by rw [h2]; decide), if_neg (by rw [h3]; decide)]
theorem keys_ne {l : List UInt8} (h : keysL.contains l = true) : l ≠ [] := by rintro rfl; exact absurd h (by decide)

set_option maxHeartbeats 4000000 in
set_option maxRecDepth 100000 in
theorem one_word (s : ByteArray) (pos : Nat) (w : World) (h0 : pos < s.size) (hs : s.size ≤ 17592186044416) (h34 : ¬ (s.get! pos).toNat = 34) :
    Calls Tryd.prog 24 #[.string s, .int .i64 pos] w fun e w' => NextIs (s.data.toList.drop pos) pos e ∧ Below w.heap.size w w' := by
  have d1 : (0 : Int) ≤ pos := by omega
  have d2 : (pos : Int) ≤ s.size := by omega
  have d3 : (pos : Int) < s.size := by omega
  have hg := get_lt s pos h0
  have q34 : (((s[pos]'h0).toNat : Int) == 34) = false := by rw [hg, beq_eq_false_iff_ne]; omega
  have b2 : Below w.heap.size w (w.alloc (.cells #[.int .i64 0, .string ⟨#[]⟩, .int .i64 0, .int .i64 0] 31)) := (Below.refl _ _).alloc (Nat.le_refl _) _
  have T2 : Tk (w.alloc (.cells #[.int .i64 0, .string ⟨#[]⟩, .int .i64 0, .int .i64 0] 31)) w.heap.size 0 ⟨#[]⟩ 0 0 := heap_alloc_new w _
  have HB2 := Lib.hid b2
  have HT2 := Lib.hid T2
  have H34 := Lib.hid h34
  clear hg b2 T2 h34
  obtain ⟨T, hT⟩ : ∃ T, pos + (wordOf (s.data.toList.drop pos)).length = T := ⟨_, rfl⟩
  have hTs : T ≤ s.size := by
    have : (wordOf (s.data.toList.drop pos)).length ≤ (s.data.toList.drop pos).length := List.IsPrefix.length_le (List.takeWhile_prefix _)
    rw [List.length_drop, size_data] at this
    omega
  have HTT := Lib.hid hT
  go_enter Tryd.func24, Tryd.ntmps24
  go_wp2
  go_loop [9] (fun i => ∃ p : Nat, i = .int .i64 p ∧ pos ≤ p ∧ p ≤ s.size ∧ p + (wordOf (s.data.toList.drop p)).length = T) (fun i => s.size - (intOf i).toNat)
  case atStart => exact ⟨pos, rfl, Nat.le_refl _, by omega, hT⟩
  case round =>
    clear hT
    obtain ⟨p, rfl, hpp, hps, hpT⟩ := hrel
    have HP := Lib.hid hpT
    clear hpT
    by_cases hgo : ∃ h : p < s.size, behindB (s.get! p) = true
    · obtain ⟨hlt, hb⟩ := hgo
      have hlt' : (p : Int) < s.size := by omega
      have d4 : (0 : Int) ≤ p := by omega
      have hgp := get_lt s p hlt
      have hbz : behindZ ((s[p]'hlt).toNat : Int) = true := by rw [hgp]; exact hb
      have hn := wordOf_step s p hlt
      rw [if_pos hb] at hn
      have hn2 : p + 1 + (wordOf (s.data.toList.drop (p + 1))).length = T := by have := HP.out; omega
      have HN := Lib.hid hn2
      clear hb hgp hn hn2
      go_wp2_with (go_at_call 44; refine (goes _ _).mono ?_; rw [hbz]; rintro e w' ⟨rfl, rfl⟩)
      refine ⟨⟨p + 1, by simp, by omega, by omega, HN.out⟩, by simp [intOf]; omega⟩
    · have hz : (wordOf (s.data.toList.drop p)).length = 0 := by
        by_cases hlt : p < s.size
        · have hn := wordOf_step s p hlt
          rw [if_neg (fun hb => hgo ⟨hlt, hb⟩)] at hn
          exact hn
        · exact wordOf_past s p (by omega)
      obtain rfl : p = T := by have := HP.out; omega
      clear HP hz
      have hyd := ext_data s pos p
      have hlw := HTT.out
      have hword : (s.extract pos p).data.toList = wordOf (s.data.toList.drop pos) := by
        rw [hyd, show p - pos = (wordOf (s.data.toList.drop pos)).length from by omega]
        exact wordOf_prefix _
      have hys : (s.extract pos p).size = p - pos := by
        rw [← size_data, hword]; omega
      have hgo2 : ∀ h : p < s.size, behindZ ((s[p]'h).toNat : Int) = false := by
        intro h
        rw [get_lt s p h]
        exact Bool.eq_false_iff.2 fun hb => hgo ⟨h, hb⟩
      clear hgo hyd
      have dp : (pos : Int) ≤ p := by omega
      have dps : (p : Int) ≤ s.size := by omega
      have dp0 : (0 : Int) ≤ p := by omega
      have b1 : Below w.heap.size w ((w.alloc (.cells #[.int .i64 0, .string ⟨#[]⟩, .int .i64 0, .int .i64 0] 31)).alloc (.cells #[.int .i64 1, .string (s.extract pos p), .int .i64 pos, .int .i64 p] 31)) := HB2.out.alloc (by simp) _
      have T1 : Tk ((w.alloc (.cells #[.int .i64 0, .string ⟨#[]⟩, .int .i64 0, .int .i64 0] 31)).alloc (.cells #[.int .i64 1, .string (s.extract pos p), .int .i64 pos, .int .i64 p] 31)) (w.heap.size + 1) 1 (s.extract pos p) pos p := heap_alloc2_new w _ _
      have Z1 : Tk ((w.alloc (.cells #[.int .i64 0, .string ⟨#[]⟩, .int .i64 0, .int .i64 0] 31)).alloc (.cells #[.int .i64 1, .string (s.extract pos p), .int .i64 pos, .int .i64 p] 31)) w.heap.size 0 ⟨#[]⟩ 0 0 := HT2.out.below ((Below.refl _ _).alloc (Nat.le_refl _) _)
      have HB1 := Lib.hid b1
      have HT1 := Lib.hid T1
      have HZ1 := Lib.hid Z1
      have HWORD := Lib.hid hword
      have HYS := Lib.hid hys
      clear b1 T1 Z1 hword hys hlw
      by_cases hlt : p < s.size
      all_goals
        first
        | (have hlt' : (p : Int) < s.size := by omega
           have hbz := hgo2 hlt
           clear hgo2
           go_wp2_with (go_at_call 44; refine (goes _ _).mono ?_; rw [hbz]; rintro e w' ⟨rfl, rfl⟩))
        | (have hlt' : ¬ (p : Int) < s.size := by omega
           clear hgo2
           go_wp2_with fail)
        generalize (w.alloc (.cells #[.int .i64 0, .string ⟨#[]⟩, .int .i64 0, .int .i64 0] 31)).alloc (.cells #[.int .i64 1, .string (s.extract pos p), .int .i64 pos, .int .i64 p] 31) = W1 at HB1 HT1 HZ1 ⊢
        generalize s.extract pos p = y at HWORD HYS HT1 ⊢
        have hTG := fun w => refIsTag y w (by have := HYS.out; omega)
        have hKY := fun w => refIsKey y w
        have hWD := fun w => refIsWord y w (by have := HYS.out; omega)
        have hdr := drop_cons s pos h0
        have HDR := Lib.hid hdr
        have HLW := Lib.hid (show pos + (wordOf (s.data.toList.drop pos)).length = p from HTT.out)
        obtain ⟨tg, htg⟩ : ∃ tg, tagL y.data.toList = tg := ⟨_, rfl⟩
        obtain ⟨ky, hky⟩ : ∃ ky, keysL.contains y.data.toList = ky := ⟨_, rfl⟩
        obtain ⟨wd, hwd⟩ : ∃ wd, wordL y.data.toList = wd := ⟨_, rfl⟩
        simp only [htg] at hTG
        simp only [hky] at hKY
        simp only [hwd] at hWD
        have HTG := Lib.hid hTG
        have HKY := Lib.hid hKY
        have HWD := Lib.hid hWD
        have Htg := Lib.hid htg
        have Hky := Lib.hid hky
        have Hwd := Lib.hid hwd
        clear hTG hKY hWD htg hky hwd hdr
        refine (HTG.out _).mono ?_
        rintro e w' ⟨rfl, rfl⟩
        have T1 := HT1.out
        have Z1 := HZ1.out
        have c1 := HB1.out
        have t0 := T1.cell0
        have t1 := T1.cell1
        have t2 := T1.cell2
        have t3 := T1.cell3
        have f0 := T1.frozen 0
        have z0 := Z1.cell0
        have z1 := Z1.cell1
        have z2 := Z1.cell2
        have z3 := Z1.cell3
        have g0 := Z1.frozen 0
        have g1 := Z1.frozen 1
        have g2 := Z1.frozen 2
        have g3 := Z1.frozen 3
        dsimp only
        cases tg with
        | true =>
          go_wp2
          have Z7 := Tk.put4 (Z1.far (g' := w.heap.size + 1) (by omega) 0 (.int .i64 2)) 2 y pos p
          have c7 := below_put4 (below_set c1 (w.heap.size + 1) 0 (by omega) (.int .i64 2)) w.heap.size (Nat.le_refl _) 2 y pos p
          unfold put4 at Z7 c7
          generalize ((((W1.setCell ⟨w.heap.size + 1, 0, none⟩ (.int .i64 2)).setCell ⟨w.heap.size, 0, none⟩ (.int .i64 2)).setCell ⟨w.heap.size, 1, none⟩ (.string y)).setCell ⟨w.heap.size, 2, none⟩ (.int .i64 pos)).setCell ⟨w.heap.size, 3, none⟩ (.int .i64 p) = W7 at Z7 c7 ⊢
          have y0 := Z7.cell0
          have y1 := Z7.cell1
          have y2 := Z7.cell2
          have y3 := Z7.cell3
          exact bodyPost_ret (v := .tuple #[.agg #[.int .i64 2, .string y, .int .i64 pos, .int .i64 p], .bool true]) (by simp [results, Tryd.results24, go_sem, y0, y1, y2, y3]) rfl ⟨nextIs_word HDR.out H34.out HWORD.out (by have := Htg.out; intro e; rw [e] at this; cases this) (kindOf_tag Htg.out) HLW.out, c7⟩
        | false =>
          go_wp2_with fail
          refine (HKY.out _).mono ?_
          clear t0 t1 t2 t3 f0 z0 z1 z2 z3 g0 g1 g2 g3
          rintro e W2 ⟨rfl, b2⟩
          have c2 := c1.trans (b2.mono c1.size)
          have T2 := T1.below b2
          have Z2 := Z1.below b2
          clear T1 Z1 c1 b2 HT1 HZ1 HB1
          have T1 := T2
          have Z1 := Z2
          have c1 := c2
          clear T2 Z2 c2
          clear W1
          obtain ⟨W1, hW1⟩ : ∃ W, W = W2 := ⟨_, rfl⟩
          rw [← hW1] at T1 Z1 c1 ⊢
          clear hW1
          have t0 := T1.cell0
          have t1 := T1.cell1
          have t2 := T1.cell2
          have t3 := T1.cell3
          have f0 := T1.frozen 0
          have z0 := Z1.cell0
          have z1 := Z1.cell1
          have z2 := Z1.cell2
          have z3 := Z1.cell3
          have g0 := Z1.frozen 0
          have g1 := Z1.frozen 1
          have g2 := Z1.frozen 2
          have g3 := Z1.frozen 3
          dsimp only
          cases ky with
          | true =>
            go_wp2
            have Z7 := Tk.put4 (Z1.far (g' := w.heap.size + 1) (by omega) 0 (.int .i64 6)) 6 y pos p
            have c7 := below_put4 (below_set c1 (w.heap.size + 1) 0 (by omega) (.int .i64 6)) w.heap.size (Nat.le_refl _) 6 y pos p
            unfold put4 at Z7 c7
            generalize ((((W1.setCell ⟨w.heap.size + 1, 0, none⟩ (.int .i64 6)).setCell ⟨w.heap.size, 0, none⟩ (.int .i64 6)).setCell ⟨w.heap.size, 1, none⟩ (.string y)).setCell ⟨w.heap.size, 2, none⟩ (.int .i64 pos)).setCell ⟨w.heap.size, 3, none⟩ (.int .i64 p) = W7 at Z7 c7 ⊢
            have y0 := Z7.cell0
            have y1 := Z7.cell1
            have y2 := Z7.cell2
            have y3 := Z7.cell3
            exact bodyPost_ret (v := .tuple #[.agg #[.int .i64 6, .string y, .int .i64 pos, .int .i64 p], .bool true]) (by simp [results, Tryd.results24, go_sem, y0, y1, y2, y3]) rfl ⟨nextIs_word HDR.out H34.out HWORD.out (keys_ne Hky.out) (kindOf_key Htg.out Hky.out) HLW.out, c7⟩
          | false =>
            go_wp2_with fail
            refine (HWD.out _).mono ?_
            rintro e w' ⟨rfl, rfl⟩
            dsimp only
            cases wd with
            | true =>
              go_wp2
              have Z7 := Tk.put4 Z1 1 y pos p
              have c7 := below_put4 c1 w.heap.size (Nat.le_refl _) 1 y pos p
              unfold put4 at Z7 c7
              generalize (((W1.setCell ⟨w.heap.size, 0, none⟩ (.int .i64 1)).setCell ⟨w.heap.size, 1, none⟩ (.string y)).setCell ⟨w.heap.size, 2, none⟩ (.int .i64 pos)).setCell ⟨w.heap.size, 3, none⟩ (.int .i64 p) = W7 at Z7 c7 ⊢
              have y0 := Z7.cell0
              have y1 := Z7.cell1
              have y2 := Z7.cell2
              have y3 := Z7.cell3
              exact bodyPost_ret (v := .tuple #[.agg #[.int .i64 1, .string y, .int .i64 pos, .int .i64 p], .bool true]) (by simp [results, Tryd.results24, go_sem, y0, y1, y2, y3]) rfl ⟨nextIs_word HDR.out H34.out HWORD.out (by have := Hwd.out; intro e; rw [e] at this; cases this) (kindOf_word Htg.out Hky.out Hwd.out) HLW.out, c7⟩
            | false =>
              by_cases hgt : pos < p
              · have hgt' : (pos : Int) < p := by omega
                have hne : y.data.toList ≠ [] := by intro e; have h1 := HYS.out; rw [← size_data, e] at h1; simp at h1; omega
                have HNE := Lib.hid hne
                have hyall : y.data.toList.all figB = ((s.data.toList.drop pos).take (p - pos)).all figB := by
                  rw [HWORD.out, ← wordOf_prefix (s.data.toList.drop pos), show (wordOf (s.data.toList.drop pos)).length = p - pos from by have := HLW.out; omega]
                have HYA := Lib.hid hyall
                clear hne hyall
                go_wp2_with fail
                go_loop [11] (fun i => ∃ q : Nat, i = .int .i64 q ∧ pos ≤ q ∧ q ≤ p ∧ ((s.data.toList.drop q).take (p - q)).all figB = y.data.toList.all figB) (fun i => p - (intOf i).toNat)
                case atStart => exact ⟨pos, rfl, Nat.le_refl _, by omega, HYA.out.symm⟩
                case round =>
                  obtain ⟨q, rfl, hpq, hqp, hall⟩ := hrel
                  have HALL := Lib.hid hall
                  clear hall
                  by_cases hq : q < p
                  · have hq' : (q : Int) < p := by omega
                    have hqs : q < s.size := by omega
                    have hqs' : (q : Int) < s.size := by omega
                    have hq0 : (0 : Int) ≤ q := by omega
                    have hgq := get_lt s q hqs
                    have hst := figs_step s q p hq hTs
                    obtain ⟨f, hf⟩ : ∃ f, figB (s.get! q) = f := ⟨_, rfl⟩
                    have hfz : inB ((s[q]'hqs).toNat : Int) 48 57 = f := by rw [hgq]; exact hf
                    rw [hf] at hst
                    have HST := Lib.hid hst
                    clear hst hf hgq
                    cases f with
                    | true =>
                      have hnx : ((s.data.toList.drop (q + 1)).take (p - (q + 1))).all figB = y.data.toList.all figB := by
                        have h1 := HST.out
                        rw [Bool.true_and] at h1
                        rw [← h1]; exact HALL.out
                      have HNX := Lib.hid hnx
                      clear hnx
                      go_wp2_with (go_at_call 45; refine (figure _ _).mono ?_; rw [hfz]; rintro e w' ⟨rfl, rfl⟩)
                      refine ⟨⟨q + 1, by simp, by omega, by omega, HNX.out⟩, by simp [intOf]; omega⟩
                    | false =>
                      have hno : kindOf y.data.toList = none := by
                        rw [kindOf_num Htg.out Hky.out Hwd.out]
                        have h1 := HST.out
                        rw [Bool.false_and] at h1
                        have h2 := HALL.out
                        rw [h1] at h2
                        rw [← h2]; rfl
                      have HNO := Lib.hid hno
                      clear hno
                      go_wp2_with (go_at_call 45; refine (figure _ _).mono ?_; rw [hfz]; rintro e w' ⟨rfl, rfl⟩)
                      have Z7 := Tk.put4 Z1 1 y pos p
                      have c7 := below_put4 c1 w.heap.size (Nat.le_refl _) 1 y pos p
                      unfold put4 at Z7 c7
                      generalize (((W1.setCell ⟨w.heap.size, 0, none⟩ (.int .i64 1)).setCell ⟨w.heap.size, 1, none⟩ (.string y)).setCell ⟨w.heap.size, 2, none⟩ (.int .i64 pos)).setCell ⟨w.heap.size, 3, none⟩ (.int .i64 p) = W7 at Z7 c7 ⊢
                      have y0 := Z7.cell0
                      have y1 := Z7.cell1
                      have y2 := Z7.cell2
                      have y3 := Z7.cell3
                      exact bodyPost_ret (v := .tuple #[.agg #[.int .i64 1, .string y, .int .i64 pos, .int .i64 p], .bool false]) (by simp [results, Tryd.results24, go_sem, y0, y1, y2, y3]) rfl ⟨nextIs_not HDR.out H34.out HWORD.out HNE.out HNO.out, c7⟩
                  · obtain rfl : q = p := by omega
                    have hfull : y.data.toList.all figB = true := by
                      rw [← HALL.out, Nat.sub_self]; rfl
                    have hkn := kindOf_num Htg.out Hky.out Hwd.out
                    rw [hfull, Bool.true_and] at hkn
                    have hyl : y.data.toList.length = q - pos := by rw [size_data]; exact HYS.out
                    rw [hyl] at hkn
                    have HKN := Lib.hid hkn
                    have kk : IntKind.i64.wrap ((q : Int) - (pos : Int)) = (q : Int) - (pos : Int) := IntWalk.i64_in _ (by omega)
                    clear hfull hkn hyl
                    by_cases h18 : q - pos ≤ 18
                    · have h18' : (q : Int) - (pos : Int) ≤ 18 := by omega
                      have hk3 : kindOf y.data.toList = some 3 := by have := HKN.out; rw [decide_eq_true h18] at this; exact this
                      have HK3 := Lib.hid hk3
                      clear hk3
                      go_wp2
                      have Z7 := Tk.put4 (Z1.far (g' := w.heap.size + 1) (by omega) 0 (.int .i64 3)) 3 y pos q
                      have c7 := below_put4 (below_set c1 (w.heap.size + 1) 0 (by omega) (.int .i64 3)) w.heap.size (Nat.le_refl _) 3 y pos q
                      unfold put4 at Z7 c7
                      generalize ((((W1.setCell ⟨w.heap.size + 1, 0, none⟩ (.int .i64 3)).setCell ⟨w.heap.size, 0, none⟩ (.int .i64 3)).setCell ⟨w.heap.size, 1, none⟩ (.string y)).setCell ⟨w.heap.size, 2, none⟩ (.int .i64 pos)).setCell ⟨w.heap.size, 3, none⟩ (.int .i64 q) = W7 at Z7 c7 ⊢
                      have y0 := Z7.cell0
                      have y1 := Z7.cell1
                      have y2 := Z7.cell2
                      have y3 := Z7.cell3
                      exact bodyPost_ret (v := .tuple #[.agg #[.int .i64 3, .string y, .int .i64 pos, .int .i64 q], .bool true]) (by simp [results, Tryd.results24, go_sem, y0, y1, y2, y3]) rfl ⟨nextIs_word HDR.out H34.out HWORD.out HNE.out HK3.out HLW.out, c7⟩
                    · have h18' : ¬ (q : Int) - (pos : Int) ≤ 18 := by omega
                      have hk3 : kindOf y.data.toList = none := by have := HKN.out; rw [decide_eq_false h18] at this; exact this
                      have HK3 := Lib.hid hk3
                      clear hk3
                      go_wp2
                      have Z7 := Tk.put4 (Z1.far (g' := w.heap.size + 1) (by omega) 0 (.int .i64 3)) 3 y pos q
                      have c7 := below_put4 (below_set c1 (w.heap.size + 1) 0 (by omega) (.int .i64 3)) w.heap.size (Nat.le_refl _) 3 y pos q
                      unfold put4 at Z7 c7
                      generalize ((((W1.setCell ⟨w.heap.size + 1, 0, none⟩ (.int .i64 3)).setCell ⟨w.heap.size, 0, none⟩ (.int .i64 3)).setCell ⟨w.heap.size, 1, none⟩ (.string y)).setCell ⟨w.heap.size, 2, none⟩ (.int .i64 pos)).setCell ⟨w.heap.size, 3, none⟩ (.int .i64 q) = W7 at Z7 c7 ⊢
                      have y0 := Z7.cell0
                      have y1 := Z7.cell1
                      have y2 := Z7.cell2
                      have y3 := Z7.cell3
                      exact bodyPost_ret (v := .tuple #[.agg #[.int .i64 3, .string y, .int .i64 pos, .int .i64 q], .bool false]) (by simp [results, Tryd.results24, go_sem, y0, y1, y2, y3]) rfl ⟨nextIs_not HDR.out H34.out HWORD.out HNE.out HK3.out, c7⟩
              · obtain rfl : pos = p := by omega
                try exact absurd h0 hlt
                all_goals
                  have hw0 : wordOf (s.data.toList.drop pos) = [] := List.eq_nil_of_length_eq_zero (by have := HLW.out; omega)
                  have hgt' : ¬ (pos : Int) < pos := by omega
                  have HW0 := Lib.hid hw0
                  clear hw0
                  go_wp2_with fail
                  refine (refSign s pos _ (by omega) (by omega)).mono ?_
                  clear t0 t1 t2 t3 f0 z0 z1 z2 z3 g0 g1 g2 g3
                  rintro e W2 ⟨rfl, b2⟩
                  have c2 := c1.trans (b2.mono c1.size)
                  have Z2 := Z1.below b2
                  clear T1 Z1 c1 b2
                  have Z1 := Z2
                  have c1 := c2
                  clear Z2 c2
                  clear W1
                  obtain ⟨W1, hW1⟩ : ∃ W, W = W2 := ⟨_, rfl⟩
                  rw [← hW1] at Z1 c1 ⊢
                  clear hW1
                  have z0 := Z1.cell0
                  have z1 := Z1.cell1
                  have z2 := Z1.cell2
                  have z3 := Z1.cell3
                  have g0 := Z1.frozen 0
                  have g1 := Z1.frozen 1
                  have g2 := Z1.frozen 2
                  have g3 := Z1.frozen 3
                  have hos := oneL_sign HDR.out H34.out HW0.out
                  obtain ⟨z, hz⟩ : ∃ z, signB (s.data.toList.drop pos) = z := ⟨_, rfl⟩
                  rw [hz]
                  dsimp only
                  cases hsg : signOf (s.data.toList.drop pos) with
                  | none =>
                    have hz0 : z = ⟨#[]⟩ := by rw [← hz]; unfold signB; rw [hsg]; rfl
                    have hzn : z.size ≤ 2 := by rw [hz0]; decide
                    have hze : z.toList.isEmpty = true := by rw [hz0, toList_data]; rfl
                    rw [hsg] at hos
                    have HOS := Lib.hid hos
                    have kk : IntKind.i64.wrap ((pos : Int) + (z.size : Int)) = (pos : Int) + (z.size : Int) := IntWalk.i64_in _ (by omega)
                    clear hz hsg hos hz0
                    go_wp2
                    have Z7 := Tk.put4 Z1 5 z pos (pos + z.size)
                    have c7 := below_put4 c1 w.heap.size (Nat.le_refl _) 5 z pos (pos + z.size)
                    unfold put4 at Z7 c7
                    generalize (((W1.setCell ⟨w.heap.size, 0, none⟩ (.int .i64 5)).setCell ⟨w.heap.size, 1, none⟩ (.string z)).setCell ⟨w.heap.size, 2, none⟩ (.int .i64 pos)).setCell ⟨w.heap.size, 3, none⟩ (.int .i64 (pos + z.size)) = W7 at Z7 c7 ⊢
                    have y0 := Z7.cell0
                    have y1 := Z7.cell1
                    have y2 := Z7.cell2
                    have y3 := Z7.cell3
                    exact bodyPost_ret (v := .tuple #[.agg #[.int .i64 5, .string z, .int .i64 pos, .int .i64 (pos + z.size)], .bool false]) (by simp [results, Tryd.results24, go_sem, y0, y1, y2, y3]) rfl ⟨⟨5, z, (pos + z.size), false, rfl, by rw [HOS.out]; rfl⟩, c7⟩
                  | some x =>
                    have hz0 : z = ⟨x.toArray⟩ := by rw [← hz]; unfold signB; rw [hsg]; rfl
                    have hxp := signs_pos x (signOf_some hsg).1
                    have hzs : z.size = x.length := by rw [hz0]; exact mk_size x
                    have hze : z.toList.isEmpty = false := by
                      rw [hz0, toList_data]
                      cases x with
                      | nil => simp at hxp
                      | cons a b => rfl
                    have hzn : z.size ≤ 2 := by omega
                    rw [hsg] at hos
                    have HOS := Lib.hid hos
                    have HZ0 := Lib.hid hz0
                    have HZS := Lib.hid hzs
                    have kk : IntKind.i64.wrap ((pos : Int) + (z.size : Int)) = (pos : Int) + (z.size : Int) := IntWalk.i64_in _ (by omega)
                    clear hz hsg hos hz0 hzs hxp
                    go_wp2
                    have Z7 := Tk.put4 Z1 5 z pos (pos + z.size)
                    have c7 := below_put4 c1 w.heap.size (Nat.le_refl _) 5 z pos (pos + z.size)
                    unfold put4 at Z7 c7
                    generalize (((W1.setCell ⟨w.heap.size, 0, none⟩ (.int .i64 5)).setCell ⟨w.heap.size, 1, none⟩ (.string z)).setCell ⟨w.heap.size, 2, none⟩ (.int .i64 pos)).setCell ⟨w.heap.size, 3, none⟩ (.int .i64 (pos + z.size)) = W7 at Z7 c7 ⊢
                    have y0 := Z7.cell0
                    have y1 := Z7.cell1
                    have y2 := Z7.cell2
                    have y3 := Z7.cell3
                    exact bodyPost_ret (v := .tuple #[.agg #[.int .i64 5, .string z, .int .i64 pos, .int .i64 (pos + z.size)], .bool true]) (by simp [results, Tryd.results24, go_sem, y0, y1, y2, y3]) rfl ⟨⟨5, z, (pos + z.size), true, rfl, by rw [HOS.out]; exact ⟨rfl, rfl, HZ0.out, by rw [HZS.out]; omega⟩⟩, c7⟩

/-- The reference's token, as the plain law says. -/
theorem one (s : ByteArray) (pos : Nat) (w : World) (h0 : pos < s.size) (hs : s.size ≤ 17592186044416) :
    Calls Tryd.prog 24 #[.string s, .int .i64 pos] w fun e w' => NextIs (s.data.toList.drop pos) pos e ∧ Below w.heap.size w w' := by
  have hd := drop_cons s pos h0
  by_cases h34 : (s.get! pos).toNat = 34
  · rcases quote_cases hd h34 with ⟨ho, hu⟩ | ⟨x, n, ho, hu⟩
    · refine (one_quote s pos w h0 hs h34 [] 0 2 hu (Int.le_refl 0) (by omega)).mono fun e w' ⟨he, hb⟩ => ⟨?_, hb⟩
      exact ⟨4, _, _, _, he, by rw [ho]; rfl⟩
    · have hl := oneL_len ho
      rw [List.length_drop, size_data] at hl
      refine (one_quote s pos w h0 hs h34 x n 0 hu (by omega) (by omega)).mono fun e w' ⟨he, hb⟩ => ⟨?_, hb⟩
      exact ⟨4, _, _, _, he, by rw [ho]; exact ⟨rfl, rfl, rfl, by omega⟩⟩
  · exact one_word s pos w h0 hs h34
end Lxw
end Go.Proofs.YtelejpajnemmfaaDoor
