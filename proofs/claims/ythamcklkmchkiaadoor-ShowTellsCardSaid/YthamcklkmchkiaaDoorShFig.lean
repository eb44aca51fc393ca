/-
  DERIVED. LAYER 21 (show): a number's figures, by the reference, walked: the decimal numeral of strconv's own contract.
-/
import Derived.Test.YthamcklkmchkiaaDoorShA
import Derived.Laws.IdiomStrings
namespace Go.Proofs.YthamcklkmchkiaaDoor
open Go.RowKit
namespace Shw
open Gl Glw Sh

theorem dig_small {u : Nat} (h : u < 10) : Lib.decDigits u = [UInt8.ofNat (48 + u)] := Lib.decDigits_one h
theorem dig_big {u : Nat} (h : ¬ u < 10) : Lib.decDigits u = Lib.decDigits (u / 10) ++ [UInt8.ofNat (48 + u % 10)] := by
  conv => lhs; rw [Lib.decDigits, dif_neg h]
theorem itoa_eq (n : Int) : Lib.itoa n = (if n < 0 then [45] else []) ++ Lib.decDigits n.natAbs := by
  unfold Lib.itoa
  by_cases h : n < 0
  · rw [if_pos h, if_pos h]; rfl
  · rw [if_neg h, if_neg h, List.nil_append, show n.toNat = n.natAbs from by omega]
theorem nd_le : ∀ (k u : Nat), u < 10 ^ (k + 1) → (Lib.decDigits u).length ≤ k + 1
  | 0, u, h => by rw [dig_small (by omega)]; simp
  | k + 1, u, h => by
    by_cases hu : u < 10
    · rw [dig_small hu]; simp
    · rw [dig_big hu, List.length_append]
      have := nd_le k (u / 10) (by rw [Nat.div_lt_iff_lt_mul (by omega), ← Nat.pow_succ]; exact h)
      simp only [List.length_cons, List.length_nil]; omega
theorem dec_len (n : Int) (h0 : -9223372036854775808 ≤ n) (h1 : n ≤ 9223372036854775807) : (Lib.decDigits n.natAbs).length ≤ 20 := by
  refine nd_le 19 _ ?_
  have h10 : (10 : Nat) ^ (19 + 1) = 100000000000000000000 := by decide
  rw [h10]; omega
theorem itoa_len (n : Int) (h0 : -9223372036854775808 ≤ n) (h1 : n ≤ 9223372036854775807) : (Lib.itoa n).length ≤ 21 := by
  rw [itoa_eq, List.length_append]
  have := dec_len n h0 h1
  split
  · simp only [List.length_cons, List.length_nil]; omega
  · simp only [List.length_nil]; omega

/-- One figure more. -/
theorem fig_step (N : List UInt8) (c : Int) (t : List UInt8) (h : Lib.decDigits c.natAbs ++ t = N) : (c.tdiv 10 = 0 → UInt8.ofNat (48 + c.natAbs % 10) :: t = N) ∧ (¬ c.tdiv 10 = 0 → Lib.decDigits (c.tdiv 10).natAbs ++ (UInt8.ofNat (48 + c.natAbs % 10) :: t) = N) := by
  have ht : (c.tdiv 10).natAbs = c.natAbs / 10 := by rw [Int.natAbs_tdiv]; rfl
  constructor
  · intro h0
    have : c.natAbs < 10 := by rw [h0] at ht; simp at ht; omega
    rw [dig_small this] at h
    rw [Nat.mod_eq_of_lt this]; exact h
  · intro h0
    have : ¬ c.natAbs < 10 := by
      intro hl
      have : (c.tdiv 10).natAbs = 0 := by rw [ht]; omega
      exact h0 (Int.natAbs_eq_zero.1 this)
    rw [dig_big this, List.append_assoc] at h
    rw [ht]; exact h

theorem ofNat_fig (D : Nat) (h : D < 10) : (48 + (D : Int)) = ((UInt8.ofNat (48 + D)).toNat : Int) := by
  rw [UInt8.toNat_ofNat']; omega
theorem conv_b (w : World) (z : Int) (b : UInt8) (h : z = b.toNat) :
    (convert 74 9 (.slice (some ⟨w.heap.size, 0, none⟩) 1 1)).run Tryd.prog (w.alloc (.cells #[.int .u8 z] 5)) = .ok (.string ⟨#[b]⟩) (w.alloc (.cells #[.int .u8 z] 5)) := by
  subst h
  have := run_convert_bytes_back (P := Tryd.prog) (w.alloc (.cells #[.int .u8 b.toNat] 5)) 74 9 5 ⟨w.heap.size, 0, none⟩ 1 [b] Tryd.underlying74 Tryd.underlying5 Tryd.underlying9 (fun j hj => by
    have : j = 0 := by simp at hj; omega
    subst this
    show (w.alloc (.cells #[.int .u8 b.toNat] 5)).cell? _ = _
    simp [Addr.add])
  exact this

set_option maxHeartbeats 2000000 in
set_option maxRecDepth 100000 in
theorem Figures (n : Int) (w : World) (h0 : -9223372036854775808 ≤ n) (h1 : n ≤ 9223372036854775807) :
    Calls Tryd.prog 29 #[.int .i64 n] w fun e w' => e = .returned (.string ⟨(Lib.itoa n).toArray⟩) ∧ Below w.heap.size w w' := by
  obtain ⟨N, hN⟩ : ∃ N, Lib.decDigits n.natAbs = N := ⟨_, rfl⟩
  have hNl := dec_len n h0 h1
  have hit := itoa_eq n
  rw [hN] at hNl hit
  obtain ⟨a, ha⟩ : ∃ a : ByteArray, (if n < 0 then (⟨#[45]⟩ : ByteArray) else ⟨#[]⟩) = a := ⟨_, rfl⟩
  have had : a.data.toList = (if n < 0 then [45] else []) := by rw [← ha]; split <;> rfl
  have has : a.size ≤ 1 := by rw [← size_data, had]; split <;> simp
  have hres : ∀ y : ByteArray, y.data.toList = N → a ++ y = ⟨(Lib.itoa n).toArray⟩ := fun y hy => of_data (by rw [app_data, had, hy, hit])
  have HRES := Lib.hid hres
  have HNl := Lib.hid hNl
  have HN := Lib.hid hN
  clear hNl hit hres hN had
  by_cases hneg : n < 0
  all_goals
    first
    | rw [if_pos hneg] at ha
    | rw [if_neg hneg] at ha
    subst ha
    go_enter Tryd.func29, Tryd.ntmps29
    go_wp2
    go_loopw [0, 4] (fun c t wr => ∃ (m : Int) (y : ByteArray), c = .int .i64 m ∧ t = .string y ∧ -9223372036854775808 ≤ m ∧ m ≤ 9223372036854775807 ∧ Lib.decDigits m.natAbs ++ y.data.toList = N ∧ Below w.heap.size w wr) (fun c _ _ => (intOf c).natAbs)
    case atStart => exact ⟨n, ⟨#[]⟩, rfl, rfl, h0, h1, by rw [HN.out]; exact List.append_nil _, Below.refl _ _⟩
    case round =>
      obtain ⟨m, y, rfl, rfl, hm0, hm1, hy, hB⟩ := hrel
      have HB := Lib.hid hB
      have HY := Lib.hid hy
      have hst := fig_step N m y.data.toList HY.out
      have hyl : y.size ≤ 20 := by
        have h1 := congrArg List.length HY.out
        rw [List.length_append, size_data] at h1
        have := HNl.out; omega
      have hqa : (m.tdiv 10).natAbs = m.natAbs / 10 := by rw [Int.natAbs_tdiv]; rfl
      obtain ⟨q, hq⟩ : ∃ q, m.tdiv 10 = q := ⟨_, rfl⟩
      obtain ⟨D, hDe⟩ : ∃ D, m.natAbs % 10 = D := ⟨_, rfl⟩
      have hD : D < 10 := by omega
      rw [hq, hDe] at hst
      rw [hq] at hqa
      have HF0 := Lib.hid hst.1
      have HF1 := Lib.hid hst.2
      have HQ := Lib.hid hqa
      have hq0 : -9223372036854775808 ≤ q := by omega
      have hq1 : q ≤ 9223372036854775807 := by omega
      have w1 : IntKind.i64.wrap (48 + (D : Int)) = 48 + (D : Int) := IntWalk.i64_in _ (by omega)
      have hD0 : (0 : Int) ≤ D := by omega
      have hD1 : (D : Int) < 10 := by omega
      by_cases hm : 0 ≤ m
      · have e1 : m % 10 = (D : Int) := by omega
        have e2 : m.tmod 10 = (D : Int) := by rw [Int.tmod_eq_emod_of_nonneg hm]; exact e1
        have e3 : m / 10 = q := by rw [← hq, Int.tdiv_eq_ediv_of_nonneg hm]
        clear hst hqa hDe hy hB
        have hcv := conv_b wr (48 + (D : Int)) (UInt8.ofNat (48 + D)) (ofNat_fig D hD)
        have sb : (⟨#[UInt8.ofNat (48 + D)]⟩ : ByteArray).size = 1 := rfl
        have t1 : (9223372036854775807 < (⟨#[UInt8.ofNat (48 + D)]⟩ : ByteArray).size + y.size) = False := by rw [sb]; simp; omega
        have hdat : (⟨#[UInt8.ofNat (48 + D)]⟩ ++ y : ByteArray).data.toList = UInt8.ofNat (48 + D) :: y.data.toList := by rw [app_data]; rfl
        have HDAT := Lib.hid hdat
        have t2 : ∀ a : ByteArray, a.size ≤ 1 → (9223372036854775807 < a.size + (⟨#[UInt8.ofNat (48 + D)]⟩ ++ y : ByteArray).size) = False := by intro a ha; rw [ByteArray.size_append, sb]; simp; omega
        have t3 := t2 _ has
        have HB2 := Lib.hid (HB.out.alloc HB.out.size (.cells #[.int .u8 (48 + (D : Int))] 5))
        generalize UInt8.ofNat (48 + D) = b at hcv sb t1 hdat HDAT t2 t3 HF0 HF1
        clear sb hdat t2
        by_cases hq : q = 0
        · have q0 : (q == 0) = true := by rw [beq_iff_eq]; exact hq
          have hfin := HRES.out (⟨#[b]⟩ ++ y) (by rw [HDAT.out]; exact HF0.out hq)
          have HFIN := Lib.hid hfin
          clear hfin hq
          go_wp2
          go_ret
          exact ⟨by rw [← HFIN.out]; rfl, HB2.out⟩
        · have q0 : (q == 0) = false := by rw [beq_eq_false_iff_ne]; exact hq
          have hrel2 := HF1.out hq
          have HREL := Lib.hid (show Lib.decDigits q.natAbs ++ (⟨#[b]⟩ ++ y : ByteArray).data.toList = N by rw [HDAT.out]; exact hrel2)
          have HMZ := Lib.hid (show q.natAbs < m.natAbs by have := HQ.out; omega)
          clear hrel2 hq
          go_wp2
          refine ⟨⟨q, ⟨#[b]⟩ ++ y, rfl, rfl, hq0, hq1, HREL.out, HB2.out⟩, by simp only [intOf]; exact HMZ.out⟩
      · have hm' : m < 0 := by omega
        have e2 : m.tmod 10 = -(D : Int) := by
          have h1 := Int.tmod_eq_emod_of_nonneg (a := -m) (b := 10) (by omega)
          rw [Int.neg_tmod] at h1
          omega
        clear hst hqa hDe hy hB hm
        by_cases hz : D = 0
        · rw [hz, show -((0 : Nat) : Int) = ((0 : Nat) : Int) from rfl, ← hz] at e2
          clear hz
          have hcv := conv_b wr (48 + (D : Int)) (UInt8.ofNat (48 + D)) (ofNat_fig D hD)
          have sb : (⟨#[UInt8.ofNat (48 + D)]⟩ : ByteArray).size = 1 := rfl
          have t1 : (9223372036854775807 < (⟨#[UInt8.ofNat (48 + D)]⟩ : ByteArray).size + y.size) = False := by rw [sb]; simp; omega
          have hdat : (⟨#[UInt8.ofNat (48 + D)]⟩ ++ y : ByteArray).data.toList = UInt8.ofNat (48 + D) :: y.data.toList := by rw [app_data]; rfl
          have HDAT := Lib.hid hdat
          have t2 : ∀ a : ByteArray, a.size ≤ 1 → (9223372036854775807 < a.size + (⟨#[UInt8.ofNat (48 + D)]⟩ ++ y : ByteArray).size) = False := by intro a ha; rw [ByteArray.size_append, sb]; simp; omega
          have t3 := t2 _ has
          have HB2 := Lib.hid (HB.out.alloc HB.out.size (.cells #[.int .u8 (48 + (D : Int))] 5))
          generalize UInt8.ofNat (48 + D) = b at hcv sb t1 hdat HDAT t2 t3 HF0 HF1
          clear sb hdat t2
          by_cases hq : q = 0
          · have q0 : (q == 0) = true := by rw [beq_iff_eq]; exact hq
            have hfin := HRES.out (⟨#[b]⟩ ++ y) (by rw [HDAT.out]; exact HF0.out hq)
            have HFIN := Lib.hid hfin
            clear hfin hq
            go_wp2
            go_ret
            exact ⟨by rw [← HFIN.out]; rfl, HB2.out⟩
          · have q0 : (q == 0) = false := by rw [beq_eq_false_iff_ne]; exact hq
            have hrel2 := HF1.out hq
            have HREL := Lib.hid (show Lib.decDigits q.natAbs ++ (⟨#[b]⟩ ++ y : ByteArray).data.toList = N by rw [HDAT.out]; exact hrel2)
            have HMZ := Lib.hid (show q.natAbs < m.natAbs by have := HQ.out; omega)
            clear hrel2 hq
            go_wp2
            refine ⟨⟨q, ⟨#[b]⟩ ++ y, rfl, rfl, hq0, hq1, HREL.out, HB2.out⟩, by simp only [intOf]; exact HMZ.out⟩
        · have hz' : -(D : Int) < 0 := by omega
          have w2 : IntKind.i64.wrap (D : Int) = (D : Int) := IntWalk.i64_in _ (by omega)
          have hcv := conv_b wr (48 + (D : Int)) (UInt8.ofNat (48 + D)) (ofNat_fig D hD)
          have sb : (⟨#[UInt8.ofNat (48 + D)]⟩ : ByteArray).size = 1 := rfl
          have t1 : (9223372036854775807 < (⟨#[UInt8.ofNat (48 + D)]⟩ : ByteArray).size + y.size) = False := by rw [sb]; simp; omega
          have hdat : (⟨#[UInt8.ofNat (48 + D)]⟩ ++ y : ByteArray).data.toList = UInt8.ofNat (48 + D) :: y.data.toList := by rw [app_data]; rfl
          have HDAT := Lib.hid hdat
          have t2 : ∀ a : ByteArray, a.size ≤ 1 → (9223372036854775807 < a.size + (⟨#[UInt8.ofNat (48 + D)]⟩ ++ y : ByteArray).size) = False := by intro a ha; rw [ByteArray.size_append, sb]; simp; omega
          have t3 := t2 _ has
          have HB2 := Lib.hid (HB.out.alloc HB.out.size (.cells #[.int .u8 (48 + (D : Int))] 5))
          generalize UInt8.ofNat (48 + D) = b at hcv sb t1 hdat HDAT t2 t3 HF0 HF1
          clear sb hdat t2
          by_cases hq : q = 0
          · have q0 : (q == 0) = true := by rw [beq_iff_eq]; exact hq
            have hfin := HRES.out (⟨#[b]⟩ ++ y) (by rw [HDAT.out]; exact HF0.out hq)
            have HFIN := Lib.hid hfin
            clear hfin hq
            go_wp2
            go_ret
            exact ⟨by rw [← HFIN.out]; rfl, HB2.out⟩
          · have q0 : (q == 0) = false := by rw [beq_eq_false_iff_ne]; exact hq
            have hrel2 := HF1.out hq
            have HREL := Lib.hid (show Lib.decDigits q.natAbs ++ (⟨#[b]⟩ ++ y : ByteArray).data.toList = N by rw [HDAT.out]; exact hrel2)
            have HMZ := Lib.hid (show q.natAbs < m.natAbs by have := HQ.out; omega)
            clear hrel2 hq
            go_wp2
            refine ⟨⟨q, ⟨#[b]⟩ ++ y, rfl, rfl, hq0, hq1, HREL.out, HB2.out⟩, by simp only [intOf]; exact HMZ.out⟩
end Shw
end Go.Proofs.YthamcklkmchkiaaDoor
