/-
  DERIVED. THE STATEMENT ShowPlaces, WALKED.
-/
import Derived.Test.YthamcklkmchkiaaDoorShAlive
import Derived.Test.YthamcklkmchkiaaDoorShPlain2
namespace Go.Proofs.YthamcklkmchkiaaDoor
open Go.RowKit
namespace Shw
open Gl Glw Sh

set_option maxHeartbeats 4000000 in
set_option maxRecDepth 100000 in
theorem law_places (m t : ByteArray) (a e : Int) (_ha : -9223372036854775808 ≤ a ∧ a ≤ 9223372036854775807) (he : -9223372036854775808 ≤ e ∧ e ≤ 9223372036854775807) (w : World) (hE : Env w) :
    Calls Tryd.prog 5 #[.string m, .string t, .agg #[.int .i64 a, .int .i64 e]] w fun en w' => en = .returned (.bool true) ∧ Below w.heap.size w w' := by
  have hb : Below w.heap.size w (w.alloc (.cells #[.int .i64 a, .int .i64 e] 22)) := (Below.refl _ _).alloc (Nat.le_refl _) _
  have HE := Lib.hid (hE.below hb)
  have HB := Lib.hid hb
  clear hE hb
  by_cases h : 100 < m.size
  · have h' : (100 : Int) < m.size := by omega
    go_enter Tryd.func5, Tryd.ntmps5
    go_wp2_with fail
    refine (alive _ HE.out).mono ?_
    rintro en w1 ⟨rfl, b1⟩
    dsimp only
    go_wp2
    go_ret
    exact ⟨rfl, HB.out.trans (b1.mono HB.out.size)⟩
  · have h' : (m.size : Int) ≤ 100 := by omega
    by_cases h2 : 1000 < t.size
    · have h2' : (1000 : Int) < t.size := by omega
      go_enter Tryd.func5, Tryd.ntmps5
      go_wp2_with fail
      refine (alive _ HE.out).mono ?_
      rintro en w1 ⟨rfl, b1⟩
      dsimp only
      go_wp2
      go_ret
      exact ⟨rfl, HB.out.trans (b1.mono HB.out.size)⟩
    · have h2' : (t.size : Int) ≤ 1000 := by omega
      have hms : m.size ≤ 100 := by omega
      have hW1 := fun w hE => Wrong m t a e w hE (by omega) (by omega) he.1 he.2
      have hW0 := fun w hE => Wrong m t 0 e w hE (by omega) (by omega) he.1 he.2
      have hE1 := fun w hE => Error e w hE he.1 he.2
      have hpb := place_bounds t a (by omega)
      have hsp := wrong_mid m.data.toList t.data.toList a e
      have hlen := errL_len e
      obtain ⟨z, hz⟩ : ∃ z : ByteArray, (⟨(wrongL m.data.toList t.data.toList a e).toArray⟩ : ByteArray) = z := ⟨_, rfl⟩
      obtain ⟨y, hy⟩ : ∃ y : ByteArray, (⟨(errL e).toArray⟩ : ByteArray) = y := ⟨_, rfl⟩
      rw [hz] at hW1
      rw [hy] at hE1
      have hzl : wrongL m.data.toList t.data.toList a e = z.data.toList := by rw [← hz]
      have hyl : errL e = y.data.toList := by rw [← hy]
      rw [hzl, hyl] at hsp
      rw [hyl, size_data] at hlen
      have c1 := fits_cat ⟨#[58, 32]⟩ y (by have : (⟨#[58, 32]⟩ : ByteArray).size = 2 := rfl; omega)
      obtain ⟨N, hN⟩ : ∃ N : ByteArray, (⟨#[58, 32]⟩ : ByteArray) ++ y = N := ⟨_, rfl⟩
      have hNl : N.data.toList = 58 :: 32 :: y.data.toList := by rw [← hN, app_data]; rfl
      have hw0 : (⟨(wrongL m.data.toList t.data.toList 0 e).toArray⟩ : ByteArray) = (m ++ ⟨#[58, 49, 58, 49]⟩) ++ N := by
        have h : wrongL m.data.toList t.data.toList 0 e = ((m ++ ⟨#[58, 49, 58, 49]⟩) ++ N).data.toList := by
          rw [app_data, app_data, hNl, ← hyl, wrong_mid, show placeL t.data.toList 0 = (1, 1) from placeFrom_stop _ _ _ _ (by omega), List.append_assoc, show midL (1, 1).1 (1, 1).2 = [58, 49, 58, 49] by decide +kernel]
        rw [h]
      rw [hw0] at hW0
      have hml := mid_len _ _ hpb.1 hpb.2.2.1
      have hmb := mid_le _ _ hpb.1 hpb.2.1 hpb.2.2.1 hpb.2.2.2
      have hat := mid_at _ _ hpb.1 hpb.2.2.1
      have hcnt := mid_count _ _ hpb.1 hpb.2.2.1
      have hg0 : (midL (placeL t.data.toList a).1 (placeL t.data.toList a).2)[0]? = some 58 := rfl
      rw [← hNl] at hsp
      clear hw0
      generalize midL (placeL t.data.toList a).1 (placeL t.data.toList a).2 = G at hsp hml hmb hat hcnt hg0
      have hzs : z.size = m.size + G.length + N.size := by
        have := congrArg List.length hsp
        rw [List.length_append, List.length_append, size_data, size_data, size_data] at this
        omega
      have hNs : N.size = 2 + y.size := by
        have := congrArg List.length hNl
        rw [size_data, List.length_cons, List.length_cons, size_data] at this
        omega
      have HW1 := Lib.hid hW1
      have HW0 := Lib.hid hW0
      have HE1 := Lib.hid hE1
      have HSP := Lib.hid hsp
      have HAT := Lib.hid hat
      have HCNT := Lib.hid hcnt
      have HNL := Lib.hid hNl
      have HG0 := Lib.hid hg0
      clear hW1 hW0 hE1 hsp hpb hz hy hzl hyl hat hcnt hNl hg0
      go_enter Tryd.func5, Tryd.ntmps5
      go_wp2_with fail
      refine (HW1.out _ HE.out).mono ?_
      rintro en w1 ⟨rfl, b1⟩
      have HB1 := Lib.hid (HB.out.trans (b1.mono HB.out.size))
      have HX1 := Lib.hid (HE.out.below b1)
      clear b1 HB HE
      dsimp only
      go_wp2_with fail
      refine (HE1.out _ HX1.out).mono ?_
      rintro en w2 ⟨rfl, b2⟩
      have HB2 := Lib.hid (HB1.out.trans (b2.mono HB1.out.size))
      have HX2 := Lib.hid (HX1.out.below b2)
      clear b2 HB1 HX1
      dsimp only
      have hsp := HSP.out
      obtain ⟨K, hK⟩ : ∃ K, m.size + G.length = K := ⟨_, rfl⟩
      have hzK : z.size = K + N.size := by omega
      have p40 : decide ((z.size : Int) < (m.size : Int) + N.size + 4) = false := by simp; omega
      have x0 : z.extract 0 m.size = m := by
        have h : (z.extract 0 m.size).data.toList = m.data.toList := by
          rw [Lib.extract_data, hsp, List.drop_zero, Nat.sub_zero, List.take_append_of_le_length (by rw [size_data]; omega), List.take_of_length_le (by rw [size_data]; omega)]
        exact (of_data h).trans (of_data rfl).symm
      have x1 : z.extract K z.size = N := by
        have h : (z.extract K z.size).data.toList = N.data.toList := by
          rw [Lib.extract_data, hsp, ← List.append_assoc, List.drop_append_of_le_length (by rw [List.length_append, size_data]; omega), List.drop_of_length_le (by rw [List.length_append, size_data]; omega), List.nil_append, List.take_of_length_le (by rw [size_data]; omega)]
        exact (of_data h).trans (of_data rfl).symm
      have qs : (z.size : Int) - (N.size : Int) = (K : Int) := by omega
      have hNb : (N.size : Int) ≤ 8 := by omega
      have hzb : (z.size : Int) ≤ 1000 := by omega
      have hmz : m.size < z.size := by omega
      have k0 : (0 : Int) ≤ K := by omega
      have k1 : (K : Int) ≤ z.size := by omega
      have k2 : K ≤ z.size := by omega
      have m1 : (m.size : Int) ≤ z.size := by omega
      have m2 : (m.size : Int) < z.size := by omega
      have m3 : m.size ≤ z.size := by omega
      have hzat : ∀ (k : Nat), k < G.length → ∀ (h : m.size + k < z.size), ∀ c, G[k]? = some c → z[m.size + k]'h = c := by
        intro k hk h c hc
        have e : z.data.toList[m.size + k]? = some c := by
          rw [hsp, List.getElem?_append_right (by rw [size_data]; omega), size_data, Nat.add_sub_cancel_left, List.getElem?_append_left hk]
          exact hc
        have e2 : z.data.toList[m.size + k]? = some (z[m.size + k]'h) := by
          rw [List.getElem?_eq_getElem (by rw [size_data]; omega)]
          rfl
        rw [e2] at e
        exact Option.some.inj e
      have q58 : (((z[m.size]'hmz).toNat : Int) != 58) = false := by
        have h := hzat 0 (by omega) (by omega) 58 HG0.out
        have h' : z[m.size]'hmz = 58 := h
        rw [h']; rfl
      have HZS := Lib.hid hzs
      have HZAT := Lib.hid hzat
      have HNS := Lib.hid hNs
      have HK := Lib.hid hK
      have HZK := Lib.hid hzK
      clear hsp hzs hNs hK hzK hzat
      repeat (first | go_values | go_skip | go_guarded | go_step | go_upon | go_back)
      clear p40 x0 x1 q58
      go_loop [10, 11] (fun c i => ∃ j : Nat, m.size ≤ j ∧ j ≤ K ∧ i = .int .i64 j ∧ c = .int .i64 ((G.take (j - m.size)).count 58 : Nat)) (fun _ i => K - (intOf i).toNat)
      case atStart => exact ⟨m.size, Nat.le_refl _, by have := HK.out; omega, rfl, by rw [Nat.sub_self]; rfl⟩
      case round =>
        obtain ⟨j, hj0, hj1, rfl, rfl⟩ := hrel
        obtain ⟨C, hC⟩ : ∃ C, (G.take (j - m.size)).count 58 = C := ⟨_, rfl⟩
        have hCl : (C : Int) ≤ 1000 := by
          have h1 := List.count_le_length (a := (58 : UInt8)) (l := G.take (j - m.size))
          rw [List.length_take] at h1
          omega
        have hC0 : (0 : Int) ≤ C := by omega
        rw [hC]
        by_cases hlt : j < K
        · have hkG : j - m.size < G.length := by have := HK.out; omega
          have hjz : j < z.size := by omega
          have e1 : j + 1 - m.size = (j - m.size) + 1 := by omega
          have e2 : m.size + (j - m.size) = j := by omega
          have e3 : m.size + (j - m.size + 1) = j + 1 := by omega
          have e4 : m.size + (j - m.size) < z.size := by omega
          have E3 := Lib.hid e3
          obtain ⟨c, hc, hcc⟩ := HAT.out (j - m.size) hkG
          have hzc : z[j]'hjz = c := by
            have h := HZAT.out (j - m.size) hkG e4 c hc
            rw [← h]
            congr 1
            exact e2.symm
          have hnext : ((G.take (j + 1 - m.size)).count 58 : Nat) = C + if c = 58 then 1 else 0 := by
            rw [e1, List.take_add_one, hc, List.count_append, hC]
            congr 1
            simp only [Option.toList_some, List.count_cons, List.count_nil]
            by_cases h : c = 58 <;> simp [h]
          have hlt' : (j : Int) < K := by omega
          have hj0' : (0 : Int) ≤ j := by omega
          have hjz' : (j : Int) < z.size := by omega
          have HC := Lib.hid hC
          have HNX := Lib.hid hnext
          have HZC := Lib.hid hzc
          clear hC hc hzc hnext e1 e2 e3 e4
          rcases hcc with ⟨h58, d, hd, hd1, hd2⟩ | ⟨h1, h2⟩
          · have hkG1 : j - m.size + 1 < G.length := by
              rcases Nat.lt_or_ge (j - m.size + 1) G.length with h | h
              · exact h
              · rw [List.getElem?_eq_none h] at hd; cases hd
            have hjz1 : j + 1 < z.size := by have := HK.out; have := HZK.out; omega
            have hzd : z[j + 1]'hjz1 = d := by
              have h := HZAT.out (j - m.size + 1) hkG1 (by rw [E3.out]; exact hjz1) d hd
              rw [← h]
              congr 1
              exact E3.out.symm
            have q1 : (((z[j]'hjz).toNat : Int) == 58) = true := by rw [HZC.out, h58]; rfl
            have q2 : decide (((z[j + 1]'hjz1).toNat : Int) < 49) = false := by rw [hzd]; simp; omega
            have q3 : decide (57 < ((z[j + 1]'hjz1).toNat : Int)) = false := by rw [hzd]; simp; omega
            have hjz1' : (j : Int) + 1 < z.size := by omega
            have hN1 : (G.take (j + 1 - m.size)).count 58 = C + 1 := by rw [HNX.out, if_pos h58]
            have HN1 := Lib.hid hN1
            clear hd h58 hzd hN1 HNX HZC
            go_wp2
            go_round
            case rel => exact ⟨j + 1, by omega, by omega, by go_num, by rw [HN1.out]; go_num⟩
            case measure => simp [intOf]; omega
          · have q1 : (((z[j]'hjz).toNat : Int) == 58) = false := by
              rw [HZC.out, beq_eq_false_iff_ne]; omega
            have q2 : decide (((z[j]'hjz).toNat : Int) < 48) = false := by rw [HZC.out]; simp; omega
            have q3 : decide (57 < ((z[j]'hjz).toNat : Int)) = false := by rw [HZC.out]; simp; omega
            have hN1 : (G.take (j + 1 - m.size)).count 58 = C := by rw [HNX.out, if_neg (by rintro rfl; exact absurd h2 (by decide)), Nat.add_zero]
            have HN1 := Lib.hid hN1
            clear hN1 HNX HZC
            repeat (first | go_values | go_skip | go_guarded | go_step | go_upon | go_back)
            go_round
            case rel => exact ⟨j + 1, by omega, by omega, by go_num, by rw [HN1.out]⟩
            case measure => simp [intOf]; omega
        · obtain rfl : j = K := by omega
          have h2 : C = 2 := by rw [← hC, ← HCNT.out, List.take_of_length_le (by have := HK.out; omega)]
          have s4 : (⟨#[58, 49, 58, 49]⟩ : ByteArray).size = 4 := rfl
          have c2 := fits_cat m ⟨#[58, 49, 58, 49]⟩ (by omega)
          obtain ⟨M1, hM1⟩ : ∃ M1, m ++ (⟨#[58, 49, 58, 49]⟩ : ByteArray) = M1 := ⟨_, rfl⟩
          have s5 : M1.size = m.size + 4 := by rw [← hM1, ByteArray.size_append, s4]
          have c3 := fits_cat M1 N (by omega)
          obtain ⟨M2, hM2⟩ : ∃ M2, M1 ++ N = M2 := ⟨_, rfl⟩
          have hw0 := HW0.out
          rw [hM1, hM2] at hw0
          have HW := Lib.hid hw0
          clear hC hC0 hCl s4 s5 HW0 hw0 hlt
          subst h2
          repeat (first | go_values | go_skip | go_guarded | go_step | go_upon | go_back)
          refine (alive _ HX2.out).mono ?_
          rintro en w3 ⟨rfl, b3⟩
          have HB3 := Lib.hid (HB2.out.trans (b3.mono HB2.out.size))
          have HX3 := Lib.hid (HX2.out.below b3)
          clear b3
          dsimp only
          repeat (first | go_values | go_skip | go_guarded | go_step | go_upon | go_back)
          refine (HW.out _ HX3.out).mono ?_
          rintro en w4 ⟨rfl, b4⟩
          have HB4 := Lib.hid (HB3.out.trans (b4.mono HB3.out.size))
          clear b4
          dsimp only
          repeat (first | go_values | go_skip | go_guarded | go_step | go_upon | go_back)
          go_ret
          exact ⟨rfl, HB4.out⟩
end Shw
end Go.Proofs.YthamcklkmchkiaaDoor
