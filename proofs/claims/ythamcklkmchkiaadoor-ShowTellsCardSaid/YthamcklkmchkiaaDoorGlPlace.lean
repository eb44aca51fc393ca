/-
  DERIVED. LINES AND COLUMNS, WALKED: the program's and the reference's come to one plain answer.
-/
import Derived.Test.YthamcklkmchkiaaDoorGlWord
namespace Go.Proofs.YthamcklkmchkiaaDoor
open Go.RowKit
namespace Glw
open Gl

theorem nl_rune (s : ByteArray) (pos : Nat) (h : pos < s.size) : ((Utf8.decode s pos).1 = 10) ↔ (s.get! pos).toNat = 10 := by
  rcases decode_cases s pos h with ⟨_, h2, h3⟩ | ⟨_, h2, h3⟩ | ⟨_, h2, h3, _⟩
  · rw [h3]; simp only []; omega
  · rw [h3]
  · omega
theorem place_stop (s : ByteArray) (pos : Nat) (at' a b : Int) (h : at' ≤ pos) : placeFrom (s.data.toList.drop pos) (at' - pos) a b = (a, b) := placeFrom_stop _ _ _ _ (by omega)
theorem place_end (s : ByteArray) (pos : Nat) (at' a b : Int) (h : s.size ≤ pos) : placeFrom (s.data.toList.drop pos) (at' - pos) a b = (a, b) := by
  rw [List.drop_eq_nil_of_le (by rw [size_data]; exact h), placeFrom_nil]
theorem place_step (s : ByteArray) (pos : Nat) (at' a b : Int) (hp : pos < s.size) (h : (pos : Int) < at') :
    placeFrom (s.data.toList.drop pos) (at' - pos) a b = placeFrom (s.data.toList.drop (pos + stepL (s.data.toList.drop pos))) (at' - ((pos + stepL (s.data.toList.drop pos) : Nat) : Int)) (if (s.get! pos).toNat = 10 then a + 1 else a) (if (s.get! pos).toNat = 10 then 1 else b + 1) := by
  have hd := drop_cons s pos hp
  have e : placeFrom (s.data.toList.drop pos) (at' - pos) a b = placeFrom (s.get! pos :: s.data.toList.drop (pos + 1)) (at' - pos) a b := by rw [hd]
  rw [e, placeFrom_step _ _ _ _ _ (by omega), ← hd, List.drop_drop]
  congr 1
  omega
theorem step_le (s : ByteArray) (pos : Nat) (h : pos < s.size) : pos + stepL (s.data.toList.drop pos) ≤ s.size := by
  have := stepL_le (s.data.toList.drop pos) (by rw [drop_cons s pos h]; simp)
  rw [List.length_drop, size_data] at this
  omega

set_option maxHeartbeats 1000000 in
theorem Place (s : ByteArray) (at' : Int) (w : World) (hs : s.size ≤ 35184372088832) :
    Calls Tryd.prog 26 #[.string s, .int .i64 at'] w fun e w' => e = .returned (.tuple #[.int .i64 (placeL s.data.toList at').1, .int .i64 (placeL s.data.toList at').2]) ∧ Below w.heap.size w w' := by
  obtain ⟨A, hA⟩ : ∃ A, placeL s.data.toList at' = A := ⟨_, rfl⟩
  have hA' := Lib.hid hA
  rw [hA]
  clear hA
  go_enter Tryd.func26, Tryd.ntmps26
  go_wp2
  go_loopw [6, 7] (fun l c wr => ∃ (pos : Nat) (a b : Int), wr = w.iter s pos ∧ l = .int .i64 a ∧ c = .int .i64 b ∧ pos ≤ s.size ∧ 1 ≤ a ∧ a ≤ pos + 1 ∧ 1 ≤ b ∧ b ≤ pos + 1 ∧ placeFrom (s.data.toList.drop pos) (at' - pos) a b = A) (fun _ _ wr => s.size - wr.iterPos w.heap.size)
  case atStart => exact ⟨0, 1, 1, rfl, rfl, rfl, by omega, by omega, by omega, by omega, by omega, by rw [← hA'.out]; simp [placeL]⟩
  case round =>
    obtain ⟨pos, a, b, rfl, rfl, rfl, hle, ha0, ha1, hb0, hb1, hpl⟩ := hrel
    have Hp := Lib.hid hpl
    clear hpl
    by_cases hp : pos < s.size
    · have hnx : ∀ ty, (Instr.next (.pointer (some ⟨w.heap.size, 0, none⟩)) true ty).run Tryd.prog (w.iter s pos) = _ := fun ty => run_next_any w s pos ty hp
      have i1 := nl_rune s pos hp
      have hst := stepL_pos (s.data.toList.drop pos)
      have hst2 := step_le s pos hp
      have hps := Lib.hid (place_step s pos at' a b hp)
      rw [decode_step s pos hp] at hnx
      obtain ⟨N, hN⟩ : ∃ N, stepL (s.data.toList.drop pos) = N := ⟨_, rfl⟩
      obtain ⟨R, hR⟩ : ∃ R, (Utf8.decode s pos).1 = R := ⟨_, rfl⟩
      rw [hN] at hst hst2 hps hnx
      rw [hR] at i1 hnx
      clear hR hN
      by_cases hat : at' ≤ pos
      · have hd : decide (at' ≤ (pos : Int)) = true := by simpa using hat
        clear i1
        go_wp2
        go_ret2
        have := Hp.out
        rw [place_stop s pos at' a b hat] at this
        subst this
        exact ⟨rfl, (Below.refl _ _).alloc (Nat.le_refl _) _⟩
      · have hat' : (pos : Int) < at' := by omega
        clear hat
        by_cases hc : (s.get! pos).toNat = 10
        · have hq : ((R : Int) == 10) = true := by rw [beq_iff_eq]; omega
          have hpp := hps.out hat'
          rw [if_pos hc, if_pos hc] at hpp
          have Hpp := Lib.hid hpp
          clear hpp hc i1
          go_wp2
          go_roundw
          case rel => exact ⟨pos + N, a + 1, 1, rfl, rfl, rfl, hst2, by omega, by omega, by omega, by omega, by rw [← Hpp.out]; exact Hp.out⟩
          case measure => simp; omega
        · have hq : ((R : Int) == 10) = false := by rw [beq_eq_false_iff_ne]; omega
          have hpp := hps.out hat'
          rw [if_neg hc, if_neg hc] at hpp
          have Hpp := Lib.hid hpp
          clear hpp hc i1
          go_wp2
          go_roundw
          case rel => exact ⟨pos + N, a, b + 1, rfl, rfl, rfl, hst2, by omega, by omega, by omega, by omega, by rw [← Hpp.out]; exact Hp.out⟩
          case measure => simp; omega
    · have hnx : ∀ ty, (Instr.next (.pointer (some ⟨w.heap.size, 0, none⟩)) true ty).run Tryd.prog (w.iter s pos) = _ := fun ty => run_next_end w s pos ty hp
      have hge : s.size ≤ pos := by omega
      clear hp
      go_wp2
      go_ret2
      have := Hp.out
      rw [place_end s pos at' a b hge] at this
      subst this
      exact ⟨rfl, (Below.refl _ _).alloc (Nat.le_refl _) _⟩

theorem placeL_clamp (s : ByteArray) (at' : Int) : placeL s.data.toList at' = placeL s.data.toList (min (max at' 0) s.size) := by
  have H : ∀ (l : List UInt8) (m1 m2 a b : Int), (m1 = m2 ∨ (m1 ≤ 0 ∧ m2 ≤ 0) ∨ ((l.length : Int) ≤ m1 ∧ (l.length : Int) ≤ m2)) → placeFrom l m1 a b = placeFrom l m2 a b := by
    intro l
    induction l using chunk_ind with
    | h0 => intro m1 m2 a b _; rfl
    | h1 l hl ih =>
      intro m1 m2 a b h
      cases l with
      | nil => exact absurd rfl hl
      | cons c r =>
        have hp := stepL_pos (c :: r)
        have hle := stepL_le (c :: r) hl
        by_cases e : m1 = m2
        · rw [e]
        · by_cases h0 : m1 ≤ 0 ∧ m2 ≤ 0
          · rw [placeFrom_stop _ _ _ _ h0.1, placeFrom_stop _ _ _ _ h0.2]
          · have hh : ((c :: r).length : Int) ≤ m1 ∧ ((c :: r).length : Int) ≤ m2 := by
              rcases h with h | h | h
              · exact absurd h e
              · exact absurd h h0
              · exact h
            rw [placeFrom_step _ _ _ _ _ (by omega), placeFrom_step _ _ _ _ _ (by omega)]
            refine ih _ _ _ _ (.inr (.inr ?_))
            rw [List.length_drop]
            omega
  refine H _ _ _ _ _ ?_
  rw [size_data]
  omega

set_option maxHeartbeats 1000000 in
theorem refPlace_neg (s : ByteArray) (at' : Int) (w : World) (hs : s.size ≤ 35184372088832) (hm : at' < 0) :
    Calls Tryd.prog 28 #[.string s, .int .i64 at'] w fun e w' => e = .returned (.tuple #[.int .i64 (placeL s.data.toList (0 : Int)).1, .int .i64 (placeL s.data.toList (0 : Int)).2]) ∧ w = w' := by
  obtain ⟨A, hA⟩ : ∃ A, placeL s.data.toList (0 : Int) = A := ⟨_, rfl⟩
  have hA' := Lib.hid hA
  rw [hA]
  clear hA
  go_enter Tryd.func28, Tryd.ntmps28
  go_wp2
  go_loop [6, 7, 8] (fun l c i => ∃ (pos : Nat) (a b : Int), i = .int .i64 pos ∧ l = .int .i64 a ∧ c = .int .i64 b ∧ pos ≤ s.size ∧ 1 ≤ a ∧ a ≤ pos + 1 ∧ 1 ≤ b ∧ b ≤ pos + 1 ∧ placeFrom (s.data.toList.drop pos) ((0 : Int) - pos) a b = A) (fun _ _ i => s.size - (intOf i).toNat)
  case atStart => exact ⟨0, 1, 1, rfl, rfl, rfl, by omega, by omega, by omega, by omega, by omega, by rw [← hA'.out]; simp [placeL]⟩
  case round =>
    obtain ⟨pos, a, b, rfl, rfl, rfl, hle, ha0, ha1, hb0, hb1, hpl⟩ := hrel
    have Hp := Lib.hid hpl
    clear hpl
    by_cases hat : (0 : Int) ≤ pos
    · go_wp2
      go_ret2
      have := Hp.out
      rw [place_stop s pos (0 : Int) a b hat] at this
      subst this
      exact ⟨rfl, rfl⟩
    · have hat' : (pos : Int) < (0 : Int) := by omega
      have hp : pos < s.size := by omega
      have hps := Lib.hid (place_step s pos (0 : Int) a b hp hat')
      have hst2 := step_le s pos hp
      have hL := Long s pos w hs hp
      have hll := longL_le (s.data.toList.drop pos)
      unfold stepL at hst2 hps
      obtain ⟨N, hN⟩ : ∃ N, longL (s.data.toList.drop pos) = N := ⟨_, rfl⟩
      rw [hN] at hst2 hps hll hL
      have hg := get_lt s pos hp
      obtain ⟨c, hc⟩ : ∃ c, s.get! pos = c := ⟨_, rfl⟩
      rw [hc] at hps hg
      clear hN hc hat
      have HL := Lib.hid hL
      clear hL
      have fin : ∀ (N' : Nat) (a' b' : Int), max N 1 = N' → (if c.toNat = 10 then a + 1 else a) = a' → (if c.toNat = 10 then 1 else b + 1) = b' → placeFrom (s.data.toList.drop (pos + N')) ((0 : Int) - ((pos + N' : Nat) : Int)) a' b' = A := by
        intro N' a' b' h1 h2 h3
        subst h1; subst h2; subst h3
        rw [← hps.out]; exact Hp.out
      have Fin := Lib.hid fin
      clear fin
      by_cases hn : N = 0
      · subst hn
        by_cases h10 : c.toNat = 10
        · have hq : ((c.toNat : Int) == 10) = true := by rw [beq_iff_eq]; omega
          have H10 := Lib.hid h10
          clear h10
          go_wp2_with (go_at_call 45; refine HL.out.mono ?_; rintro e w' ⟨rfl, rfl⟩)
          go_round
          case rel => exact ⟨pos + 1, a + 1, 1, by go_num, rfl, rfl, by omega, by omega, by omega, by omega, by omega, Fin.out 1 _ _ (by omega) (by rw [if_pos H10.out]) (by rw [if_pos H10.out])⟩
          case measure => simp [intOf]; omega
        · have hq : ((c.toNat : Int) == 10) = false := by rw [beq_eq_false_iff_ne]; omega
          have H10 := Lib.hid h10
          clear h10
          go_wp2_with (go_at_call 45; refine HL.out.mono ?_; rintro e w' ⟨rfl, rfl⟩)
          go_round
          case rel => exact ⟨pos + 1, a, b + 1, by go_num, rfl, rfl, by omega, by omega, by omega, by omega, by omega, Fin.out 1 _ _ (by omega) (by rw [if_neg H10.out]) (by rw [if_neg H10.out])⟩
          case measure => simp [intOf]; omega
      · have hn1 : (1 : Int) ≤ N := by omega
        by_cases h10 : c.toNat = 10
        · have hq : ((c.toNat : Int) == 10) = true := by rw [beq_iff_eq]; omega
          have H10 := Lib.hid h10
          clear h10
          go_wp2_with (go_at_call 45; refine HL.out.mono ?_; rintro e w' ⟨rfl, rfl⟩)
          go_round
          case rel => exact ⟨pos + N, a + 1, 1, by go_num, rfl, rfl, by omega, by omega, by omega, by omega, by omega, Fin.out N _ _ (by omega) (by rw [if_pos H10.out]) (by rw [if_pos H10.out])⟩
          case measure => simp [intOf]; omega
        · have hq : ((c.toNat : Int) == 10) = false := by rw [beq_eq_false_iff_ne]; omega
          have H10 := Lib.hid h10
          clear h10
          go_wp2_with (go_at_call 45; refine HL.out.mono ?_; rintro e w' ⟨rfl, rfl⟩)
          go_round
          case rel => exact ⟨pos + N, a, b + 1, by go_num, rfl, rfl, by omega, by omega, by omega, by omega, by omega, Fin.out N _ _ (by omega) (by rw [if_neg H10.out]) (by rw [if_neg H10.out])⟩
          case measure => simp [intOf]; omega

set_option maxHeartbeats 1000000 in
theorem refPlace_in (s : ByteArray) (at' : Int) (w : World) (hs : s.size ≤ 35184372088832) (hm : 0 ≤ at') (hm2 : at' ≤ s.size) :
    Calls Tryd.prog 28 #[.string s, .int .i64 at'] w fun e w' => e = .returned (.tuple #[.int .i64 (placeL s.data.toList at').1, .int .i64 (placeL s.data.toList at').2]) ∧ w = w' := by
  obtain ⟨A, hA⟩ : ∃ A, placeL s.data.toList at' = A := ⟨_, rfl⟩
  have hA' := Lib.hid hA
  rw [hA]
  clear hA
  go_enter Tryd.func28, Tryd.ntmps28
  go_wp2
  go_loop [6, 7, 8] (fun l c i => ∃ (pos : Nat) (a b : Int), i = .int .i64 pos ∧ l = .int .i64 a ∧ c = .int .i64 b ∧ pos ≤ s.size ∧ 1 ≤ a ∧ a ≤ pos + 1 ∧ 1 ≤ b ∧ b ≤ pos + 1 ∧ placeFrom (s.data.toList.drop pos) (at' - pos) a b = A) (fun _ _ i => s.size - (intOf i).toNat)
  case atStart => exact ⟨0, 1, 1, rfl, rfl, rfl, by omega, by omega, by omega, by omega, by omega, by rw [← hA'.out]; simp [placeL]⟩
  case round =>
    obtain ⟨pos, a, b, rfl, rfl, rfl, hle, ha0, ha1, hb0, hb1, hpl⟩ := hrel
    have Hp := Lib.hid hpl
    clear hpl
    by_cases hat : at' ≤ pos
    · go_wp2
      go_ret2
      have := Hp.out
      rw [place_stop s pos at' a b hat] at this
      subst this
      exact ⟨rfl, rfl⟩
    · have hat' : (pos : Int) < at' := by omega
      have hp : pos < s.size := by omega
      have hps := Lib.hid (place_step s pos at' a b hp hat')
      have hst2 := step_le s pos hp
      have hL := Long s pos w hs hp
      have hll := longL_le (s.data.toList.drop pos)
      unfold stepL at hst2 hps
      obtain ⟨N, hN⟩ : ∃ N, longL (s.data.toList.drop pos) = N := ⟨_, rfl⟩
      rw [hN] at hst2 hps hll hL
      have hg := get_lt s pos hp
      obtain ⟨c, hc⟩ : ∃ c, s.get! pos = c := ⟨_, rfl⟩
      rw [hc] at hps hg
      clear hN hc hat
      have HL := Lib.hid hL
      clear hL
      have fin : ∀ (N' : Nat) (a' b' : Int), max N 1 = N' → (if c.toNat = 10 then a + 1 else a) = a' → (if c.toNat = 10 then 1 else b + 1) = b' → placeFrom (s.data.toList.drop (pos + N')) (at' - ((pos + N' : Nat) : Int)) a' b' = A := by
        intro N' a' b' h1 h2 h3
        subst h1; subst h2; subst h3
        rw [← hps.out]; exact Hp.out
      have Fin := Lib.hid fin
      clear fin
      by_cases hn : N = 0
      · subst hn
        by_cases h10 : c.toNat = 10
        · have hq : ((c.toNat : Int) == 10) = true := by rw [beq_iff_eq]; omega
          have H10 := Lib.hid h10
          clear h10
          go_wp2_with (go_at_call 45; refine HL.out.mono ?_; rintro e w' ⟨rfl, rfl⟩)
          go_round
          case rel => exact ⟨pos + 1, a + 1, 1, by go_num, rfl, rfl, by omega, by omega, by omega, by omega, by omega, Fin.out 1 _ _ (by omega) (by rw [if_pos H10.out]) (by rw [if_pos H10.out])⟩
          case measure => simp [intOf]; omega
        · have hq : ((c.toNat : Int) == 10) = false := by rw [beq_eq_false_iff_ne]; omega
          have H10 := Lib.hid h10
          clear h10
          go_wp2_with (go_at_call 45; refine HL.out.mono ?_; rintro e w' ⟨rfl, rfl⟩)
          go_round
          case rel => exact ⟨pos + 1, a, b + 1, by go_num, rfl, rfl, by omega, by omega, by omega, by omega, by omega, Fin.out 1 _ _ (by omega) (by rw [if_neg H10.out]) (by rw [if_neg H10.out])⟩
          case measure => simp [intOf]; omega
      · have hn1 : (1 : Int) ≤ N := by omega
        by_cases h10 : c.toNat = 10
        · have hq : ((c.toNat : Int) == 10) = true := by rw [beq_iff_eq]; omega
          have H10 := Lib.hid h10
          clear h10
          go_wp2_with (go_at_call 45; refine HL.out.mono ?_; rintro e w' ⟨rfl, rfl⟩)
          go_round
          case rel => exact ⟨pos + N, a + 1, 1, by go_num, rfl, rfl, by omega, by omega, by omega, by omega, by omega, Fin.out N _ _ (by omega) (by rw [if_pos H10.out]) (by rw [if_pos H10.out])⟩
          case measure => simp [intOf]; omega
        · have hq : ((c.toNat : Int) == 10) = false := by rw [beq_eq_false_iff_ne]; omega
          have H10 := Lib.hid h10
          clear h10
          go_wp2_with (go_at_call 45; refine HL.out.mono ?_; rintro e w' ⟨rfl, rfl⟩)
          go_round
          case rel => exact ⟨pos + N, a, b + 1, by go_num, rfl, rfl, by omega, by omega, by omega, by omega, by omega, Fin.out N _ _ (by omega) (by rw [if_neg H10.out]) (by rw [if_neg H10.out])⟩
          case measure => simp [intOf]; omega

set_option maxHeartbeats 1000000 in
theorem refPlace_big (s : ByteArray) (at' : Int) (w : World) (hs : s.size ≤ 35184372088832) (hm : (s.size : Int) < at') :
    Calls Tryd.prog 28 #[.string s, .int .i64 at'] w fun e w' => e = .returned (.tuple #[.int .i64 (placeL s.data.toList (s.size : Int)).1, .int .i64 (placeL s.data.toList (s.size : Int)).2]) ∧ w = w' := by
  obtain ⟨A, hA⟩ : ∃ A, placeL s.data.toList (s.size : Int) = A := ⟨_, rfl⟩
  have hA' := Lib.hid hA
  rw [hA]
  clear hA
  go_enter Tryd.func28, Tryd.ntmps28
  go_wp2
  go_loop [6, 7, 8] (fun l c i => ∃ (pos : Nat) (a b : Int), i = .int .i64 pos ∧ l = .int .i64 a ∧ c = .int .i64 b ∧ pos ≤ s.size ∧ 1 ≤ a ∧ a ≤ pos + 1 ∧ 1 ≤ b ∧ b ≤ pos + 1 ∧ placeFrom (s.data.toList.drop pos) ((s.size : Int) - pos) a b = A) (fun _ _ i => s.size - (intOf i).toNat)
  case atStart => exact ⟨0, 1, 1, rfl, rfl, rfl, by omega, by omega, by omega, by omega, by omega, by rw [← hA'.out]; simp [placeL]⟩
  case round =>
    obtain ⟨pos, a, b, rfl, rfl, rfl, hle, ha0, ha1, hb0, hb1, hpl⟩ := hrel
    have Hp := Lib.hid hpl
    clear hpl
    by_cases hat : (s.size : Int) ≤ pos
    · go_wp2
      go_ret2
      have := Hp.out
      rw [place_stop s pos (s.size : Int) a b hat] at this
      subst this
      exact ⟨rfl, rfl⟩
    · have hat' : (pos : Int) < (s.size : Int) := by omega
      have hp : pos < s.size := by omega
      have hps := Lib.hid (place_step s pos (s.size : Int) a b hp hat')
      have hst2 := step_le s pos hp
      have hL := Long s pos w hs hp
      have hll := longL_le (s.data.toList.drop pos)
      unfold stepL at hst2 hps
      obtain ⟨N, hN⟩ : ∃ N, longL (s.data.toList.drop pos) = N := ⟨_, rfl⟩
      rw [hN] at hst2 hps hll hL
      have hg := get_lt s pos hp
      obtain ⟨c, hc⟩ : ∃ c, s.get! pos = c := ⟨_, rfl⟩
      rw [hc] at hps hg
      clear hN hc hat
      have HL := Lib.hid hL
      clear hL
      have fin : ∀ (N' : Nat) (a' b' : Int), max N 1 = N' → (if c.toNat = 10 then a + 1 else a) = a' → (if c.toNat = 10 then 1 else b + 1) = b' → placeFrom (s.data.toList.drop (pos + N')) ((s.size : Int) - ((pos + N' : Nat) : Int)) a' b' = A := by
        intro N' a' b' h1 h2 h3
        subst h1; subst h2; subst h3
        rw [← hps.out]; exact Hp.out
      have Fin := Lib.hid fin
      clear fin
      by_cases hn : N = 0
      · subst hn
        by_cases h10 : c.toNat = 10
        · have hq : ((c.toNat : Int) == 10) = true := by rw [beq_iff_eq]; omega
          have H10 := Lib.hid h10
          clear h10
          go_wp2_with (go_at_call 45; refine HL.out.mono ?_; rintro e w' ⟨rfl, rfl⟩)
          go_round
          case rel => exact ⟨pos + 1, a + 1, 1, by go_num, rfl, rfl, by omega, by omega, by omega, by omega, by omega, Fin.out 1 _ _ (by omega) (by rw [if_pos H10.out]) (by rw [if_pos H10.out])⟩
          case measure => simp [intOf]; omega
        · have hq : ((c.toNat : Int) == 10) = false := by rw [beq_eq_false_iff_ne]; omega
          have H10 := Lib.hid h10
          clear h10
          go_wp2_with (go_at_call 45; refine HL.out.mono ?_; rintro e w' ⟨rfl, rfl⟩)
          go_round
          case rel => exact ⟨pos + 1, a, b + 1, by go_num, rfl, rfl, by omega, by omega, by omega, by omega, by omega, Fin.out 1 _ _ (by omega) (by rw [if_neg H10.out]) (by rw [if_neg H10.out])⟩
          case measure => simp [intOf]; omega
      · have hn1 : (1 : Int) ≤ N := by omega
        by_cases h10 : c.toNat = 10
        · have hq : ((c.toNat : Int) == 10) = true := by rw [beq_iff_eq]; omega
          have H10 := Lib.hid h10
          clear h10
          go_wp2_with (go_at_call 45; refine HL.out.mono ?_; rintro e w' ⟨rfl, rfl⟩)
          go_round
          case rel => exact ⟨pos + N, a + 1, 1, by go_num, rfl, rfl, by omega, by omega, by omega, by omega, by omega, Fin.out N _ _ (by omega) (by rw [if_pos H10.out]) (by rw [if_pos H10.out])⟩
          case measure => simp [intOf]; omega
        · have hq : ((c.toNat : Int) == 10) = false := by rw [beq_eq_false_iff_ne]; omega
          have H10 := Lib.hid h10
          clear h10
          go_wp2_with (go_at_call 45; refine HL.out.mono ?_; rintro e w' ⟨rfl, rfl⟩)
          go_round
          case rel => exact ⟨pos + N, a, b + 1, by go_num, rfl, rfl, by omega, by omega, by omega, by omega, by omega, Fin.out N _ _ (by omega) (by rw [if_neg H10.out]) (by rw [if_neg H10.out])⟩
          case measure => simp [intOf]; omega

theorem refPlace (s : ByteArray) (at' : Int) (w : World) (hs : s.size ≤ 35184372088832) :
    Calls Tryd.prog 28 #[.string s, .int .i64 at'] w fun e w' => e = .returned (.tuple #[.int .i64 (placeL s.data.toList at').1, .int .i64 (placeL s.data.toList at').2]) ∧ w = w' := by
  rw [placeL_clamp]
  by_cases h0 : at' < 0
  · rw [show min (max at' 0) (s.size : Int) = 0 from by omega]
    exact refPlace_neg s at' w hs h0
  · by_cases h1 : at' ≤ s.size
    · rw [show min (max at' 0) (s.size : Int) = at' from by omega]
      exact refPlace_in s at' w hs (by omega) h1
    · rw [show min (max at' 0) (s.size : Int) = s.size from by omega]
      exact refPlace_big s at' w hs (by omega)
end Glw
end Go.Proofs.YthamcklkmchkiaaDoor
