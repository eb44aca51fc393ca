/-
  DERIVED. LAYER 19 (value), the reference's, walked: how many children, the end of a node, few nodes.
-/
import Derived.Test.YthamcklkmchkiaaDoorShTree
import Derived.Test.YthamcklkmchkiaaDoorShStrs
import Derived.WalkLawsBesides
import Derived.Lib.MinMax
namespace Go.Proofs.YthamcklkmchkiaaDoor
open Go.RowKit
namespace Shw
open Gl Glw Sh

set_option maxHeartbeats 1000000 in
set_option maxRecDepth 100000 in
theorem many19 (n : VN) (w : World) : Calls Tryd.prog 48 #[.agg #[.int .i64 n.k, .string n.lab, .string n.nm, .int .i64 n.num, .int .i64 n.many, .slice n.tA n.tn n.tc, .slice n.uA n.un n.uc]] w fun e w' => e = .returned (.int .i64 (manyV n)) ∧ Below w.heap.size w w' := by
  have hb : Below w.heap.size w (w.alloc (.cells #[.int .i64 n.k, .string n.lab, .string n.nm, .int .i64 n.num, .int .i64 n.many, .slice n.tA n.tn n.tc, .slice n.uA n.un n.uc] 38)) := (Below.refl _ _).alloc (Nat.le_refl _) _
  have HB := Lib.hid hb
  clear hb
  by_cases h4 : n.k = 4
  · have hm : manyV n = max n.many 0 := by unfold manyV; rw [if_pos h4]
    have q4 : (n.k == 4) = true := by rw [beq_iff_eq]; exact h4
    have HM := Lib.hid hm
    clear hm h4
    go_enter Tryd.func48, Tryd.ntmps48
    go_wp2
    go_ret
    exact ⟨by rw [HM.out]; rfl, HB.out⟩
  · have q4 : (n.k == 4) = false := by rw [beq_eq_false_iff_ne]; exact h4
    by_cases h5 : n.k = 5
    · have hm : manyV n = 1 := by unfold manyV; rw [if_neg h4, if_pos h5]
      have q5 : (n.k == 5) = true := by rw [beq_iff_eq]; exact h5
      have HM := Lib.hid hm
      clear hm h4 h5
      go_enter Tryd.func48, Tryd.ntmps48
      go_wp2
      go_ret
      exact ⟨by rw [HM.out]; rfl, HB.out⟩
    · have q5 : (n.k == 5) = false := by rw [beq_eq_false_iff_ne]; exact h5
      by_cases h7 : n.k = 7
      · have hm : manyV n = 1 := by unfold manyV; rw [if_neg h4, if_neg h5, if_pos h7]
        have q7 : (n.k == 7) = true := by rw [beq_iff_eq]; exact h7
        have HM := Lib.hid hm
        clear hm h4 h5 h7
        go_enter Tryd.func48, Tryd.ntmps48
        go_wp2
        go_ret
        exact ⟨by rw [HM.out]; rfl, HB.out⟩
      · have hm : manyV n = 0 := by unfold manyV; rw [if_neg h4, if_neg h5, if_neg h7]
        have q7 : (n.k == 7) = false := by rw [beq_eq_false_iff_ne]; exact h7
        have HM := Lib.hid hm
        clear hm h4 h5 h7
        go_enter Tryd.func48, Tryd.ntmps48
        go_wp2
        go_ret
        exact ⟨by rw [HM.out]; rfl, HB.out⟩

def FewN (n : VN) : Prop := n.lab.size ≤ 100 ∧ n.nm.size ≤ 200 ∧ n.tn ≤ 30 ∧ n.un ≤ 30
def FewP (most : Nat) (L : List VN) : Prop := L.length ≤ most ∧ ∀ n ∈ L, FewN n
theorem few_no {most k : Nat} {L : List VN} {n : VN} (hk : L[k]? = some n) (h : ¬ FewN n) : ¬ FewP most L := fun hf => h (hf.2 n (List.mem_of_getElem? hk))

def FewPost (most : Nat) (L : List VN) (w : World) (e : Ending) (w' : World) : Prop := ∃ b : Bool, e = .returned (.bool b) ∧ (b = true ↔ FewP most L) ∧ w = w'
theorem few_false {most : Nat} {L : List VN} {w : World} (h : ¬ FewP most L) : FewPost most L w (.returned (.bool false)) w := ⟨false, rfl, ⟨fun h => by simp at h, fun h' => absurd h' h⟩, rfl⟩
theorem few_true {most : Nat} {L : List VN} {w : World} (h : FewP most L) : FewPost most L w (.returned (.bool true)) w := ⟨true, rfl, ⟨fun _ => h, fun _ => rfl⟩, rfl⟩

set_option maxHeartbeats 2000000 in
set_option maxRecDepth 100000 in
theorem Few19 (b off cap most : Nat) (L : List VN) (hm : most ≤ 1000) (w : World) (hRV : RdV w b off L) (hL : L.length ≤ maxLen) :
    Calls Tryd.prog 14 #[.slice (some ⟨b, off, none⟩) L.length cap, .int .i64 most] w (FewPost most L w) := by
  unfold maxLen at hL
  have HRV := Lib.hid hRV
  clear hRV
  go_enter Tryd.func14, Tryd.ntmps14
  go_wp2
  go_loop [5] (fun i => ∃ k : Nat, k ≤ L.length ∧ i = .int .i64 k ∧ ∀ j n, j < k → L[j]? = some n → j ≠ most ∧ FewN n) (fun i => L.length - (intOf i).toNat)
  case atStart => exact ⟨0, Nat.zero_le _, rfl, fun j n h => by omega⟩
  case round =>
    obtain ⟨k, hk, rfl, hall⟩ := hrel
    have HALL := Lib.hid hall
    clear hall
    by_cases hlt : k < L.length
    · obtain ⟨n, hn⟩ : ∃ n, L[k]? = some n := ⟨_, List.getElem?_eq_getElem hlt⟩
      obtain ⟨a0, a1, a2, a3, a4, a5, a6⟩ := HRV.out.2 k n hn
      have hk0 : (0 : Int) ≤ k := by omega
      have hlt' : (k : Int) < L.length := by omega
      have HN := Lib.hid hn
      clear hn a0 a3 a4
      by_cases hkm : k = most
      · subst hkm
        have q0 : ((k : Int) == k) = true := by simp
        go_wp2
        go_ret
        exact few_false (fun h => by have := h.1; omega)
      · have q0 : ((k : Int) == most) = false := by rw [beq_eq_false_iff_ne]; omega
        by_cases h1 : 100 < n.lab.size
        · have q1 : decide (100 < (n.lab.size : Int)) = true := by simp; omega
          have hno := few_no (most := most) HN.out (fun h : FewN n => by have := h.1; omega)
          have HNO := Lib.hid hno
          clear hno hkm h1
          go_wp2
          go_ret
          exact few_false HNO.out
        · have q1 : decide (100 < (n.lab.size : Int)) = false := by simp; omega
          by_cases h2 : 200 < n.nm.size
          · have q2 : decide (200 < (n.nm.size : Int)) = true := by simp; omega
            have hno := few_no (most := most) HN.out (fun h : FewN n => by have := h.2.1; omega)
            have HNO := Lib.hid hno
            clear hno hkm h1 h2
            go_wp2
            go_ret
            exact few_false HNO.out
          · have q2 : decide (200 < (n.nm.size : Int)) = false := by simp; omega
            by_cases h3 : 30 < n.tn
            · have q3 : decide (30 < (n.tn : Int)) = true := by simp; omega
              have hno := few_no (most := most) HN.out (fun h : FewN n => by have := h.2.2.1; omega)
              have HNO := Lib.hid hno
              clear hno hkm h1 h2 h3
              go_wp2
              go_ret
              exact few_false HNO.out
            · have q3 : decide (30 < (n.tn : Int)) = false := by simp; omega
              by_cases h4 : 30 < n.un
              · have q4 : decide (30 < (n.un : Int)) = true := by simp; omega
                have hno := few_no (most := most) HN.out (fun h : FewN n => by have := h.2.2.2; omega)
                have HNO := Lib.hid hno
                clear hno hkm h1 h2 h3 h4
                go_wp2
                go_ret
                exact few_false HNO.out
              · have q4 : decide (30 < (n.un : Int)) = false := by simp; omega
                have HF := Lib.hid (show FewN n from ⟨by omega, by omega, by omega, by omega⟩)
                have HKM := Lib.hid hkm
                clear hkm h1 h2 h3 h4
                go_wp2
                go_round
                case rel =>
                  refine ⟨k + 1, by omega, by go_num, fun j x hj hx => ?_⟩
                  by_cases e : j = k
                  · subst e
                    rw [HN.out] at hx
                    obtain rfl := Option.some.inj hx
                    exact ⟨HKM.out, HF.out⟩
                  · exact HALL.out j x (by omega) hx
                case measure => simp [intOf]; omega
    · obtain rfl : k = L.length := by omega
      go_wp2
      go_ret
      refine few_true ⟨?_, fun n hn => ?_⟩
      · rcases Nat.lt_or_ge most L.length with h | h
        · exact absurd rfl (HALL.out most _ h (List.getElem?_eq_getElem h)).1
        · exact h
      · obtain ⟨i, hi, rfl⟩ := List.getElem_of_mem hn
        exact (HALL.out i _ hi (List.getElem?_eq_getElem hi)).2

/-- A node's cells at a place of a row. -/
theorem RdV.at_ {w : World} {b off : Nat} {L : List VN} (h : RdV w b off L) {k : Nat} (hk : k < L.length) : ∃ n, L[k]? = some n ∧ w.cell? ⟨b, off + k * 7, none⟩ = some (.int .i64 n.k) ∧ w.cell? ⟨b, off + k * 7 + 1, none⟩ = some (.string n.lab) ∧
    w.cell? ⟨b, off + k * 7 + 2, none⟩ = some (.string n.nm) ∧ w.cell? ⟨b, off + k * 7 + 3, none⟩ = some (.int .i64 n.num) ∧ w.cell? ⟨b, off + k * 7 + 4, none⟩ = some (.int .i64 n.many) ∧
    w.cell? ⟨b, off + k * 7 + 5, none⟩ = some (.slice n.tA n.tn n.tc) ∧ w.cell? ⟨b, off + k * 7 + 6, none⟩ = some (.slice n.uA n.un n.uc) :=
  ⟨L[k], List.getElem?_eq_getElem hk, h.2 k _ (List.getElem?_eq_getElem hk)⟩

theorem endGo_step (o : Int) (L : List VN) (k : Nat) (n : VN) (h : L[k]? = some n) : endGo o (L.drop k) = if stepO o n = 0 then 1 else 1 + endGo (stepO o n) (L.drop (k + 1)) := by
  have hk : k < L.length := by
    rcases Nat.lt_or_ge k L.length with h' | h'
    · exact h'
    · rw [List.getElem?_eq_none h'] at h; cases h
  rw [List.getElem?_eq_getElem hk] at h
  rw [List.drop_eq_getElem_cons hk, Option.some.inj h, endGo]

set_option maxHeartbeats 2000000 in
set_option maxRecDepth 100000 in
theorem End19 (b off cap i : Nat) (L : List VN) (hi : i ≤ L.length) (w : World) (hRV : RdV w b off L) (hL : L.length ≤ 1000000) :
    Calls Tryd.prog 47 #[.slice (some ⟨b, off, none⟩) L.length cap, .int .i64 i] w fun e w' => e = .returned (.int .i64 (i + endV (L.drop i) : Nat)) ∧ Below w.heap.size w w' := by
  have HRV := Lib.hid hRV
  clear hRV
  go_enter Tryd.func47, Tryd.ntmps47
  go_wp2_with fail
  go_loopw [5, 6] (fun o j wr => ∃ (O : Int) (k : Nat), o = .int .i64 O ∧ j = .int .i64 k ∧ i ≤ k ∧ k ≤ L.length ∧ k + endGo O (L.drop k) = i + endV (L.drop i) ∧ Below w.heap.size w wr) (fun _ j _ => L.length - (intOf j).toNat)
  case atStart => exact ⟨1, i, rfl, rfl, Nat.le_refl _, hi, rfl, Below.refl _ _⟩
  case round =>
    obtain ⟨O, k, rfl, rfl, hik, hk, heq, hB⟩ := hrel
    have HEQ := Lib.hid heq
    have HB := Lib.hid hB
    clear heq hB
    by_cases hlt : k < L.length
    · obtain ⟨n, hn, a0, a1, a2, a3, a4, a5, a6⟩ := (HRV.out.since HRV.out.1 HB.out).at_ hlt
      have hk0 : (0 : Int) ≤ k := by omega
      have hlt' : (k : Int) < L.length := by omega
      have HN := Lib.hid hn
      clear hn
      have hmany := fun w => many19 n w
      have HMY := Lib.hid hmany
      clear hmany
      go_wp2_with fail
      refine (HMY.out _).mono ?_
      rintro e w1 ⟨rfl, b1⟩
      have HB1 := Lib.hid (HB.out.trans (b1.mono HB.out.size))
      clear b1 a0 a1 a2 a3 a4 a5 a6 HMY
      dsimp only
      obtain ⟨S, hS⟩ : ∃ S, stepO O n = S := ⟨_, rfl⟩
      have hSw : wrap64 (wrap64 (O - 1) + manyV n) = S := hS
      have HSW := Lib.hid hSw
      have hst := endGo_step O L k n HN.out
      rw [hS] at hst
      have HST := Lib.hid hst
      clear hS hst
      by_cases hz : S = 0
      · have q0 : (S == 0) = true := by rw [beq_iff_eq]; exact hz
        have HZ := Lib.hid hz
        clear hz
        go_wp2_with fail
        go_ret
        refine ⟨ret_int ?_, HB1.out⟩
        have h1 := HST.out
        have h2 := HEQ.out
        rw [if_pos HZ.out] at h1
        omega
      · have q0 : (S == 0) = false := by rw [beq_eq_false_iff_ne]; exact hz
        have HZ := Lib.hid hz
        clear hz
        go_wp2_with fail
        refine ⟨⟨S, k + 1, by rw [HSW.out], by simp, by omega, by omega, ?_, HB1.out⟩, by simp [intOf]; omega⟩
        have h1 := HST.out
        have h2 := HEQ.out
        rw [if_neg HZ.out] at h1
        omega
    · obtain rfl : k = L.length := by omega
      go_wp2_with fail
      go_ret
      refine ⟨ret_int ?_, HB.out⟩
      have := HEQ.out
      rw [List.drop_length, endGo] at this
      omega
end Shw
end Go.Proofs.YthamcklkmchkiaaDoor
