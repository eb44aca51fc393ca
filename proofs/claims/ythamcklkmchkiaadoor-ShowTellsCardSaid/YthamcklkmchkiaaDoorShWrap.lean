/-
  DERIVED. LAYER 19 (value), the reference's, walked: may a wrap's types be (that it answers); what a node uses.
-/
import Derived.Test.YthamcklkmchkiaaDoorShAgree
namespace Go.Proofs.YthamcklkmchkiaaDoor
open Go.RowKit
namespace Shw
open Gl Glw Sh

/-- A type in memory: none, or a row of nodes. -/
def TyIn (w : World) (A : Option Addr) (m c : Nat) : Prop := m = 0 ∨ ∃ b off, ∃ L : List TN, A = some ⟨b, off, none⟩ ∧ L.length = m ∧ m ≤ c ∧ m ≤ 400000 ∧ RdT w b off L ∧ ∀ n ∈ L, n.nm.size ≤ 9223372036854775807
theorem TyIn.since {w w' : World} {A : Option Addr} {m c : Nat} (h : TyIn w A m c) (hb : Below w.heap.size w w') : TyIn w' A m c := by
  rcases h with h | ⟨b, off, L, h1, h2, h3, h4, h5, h6⟩
  · exact .inl h
  · exact .inr ⟨b, off, L, h1, h2, h3, h4, h5.since h5.1 hb, h6⟩

/-- It answers. -/
def AnyB (w : World) (e : Ending) (w' : World) : Prop := ∃ bo : Bool, e = .returned (.bool bo) ∧ Below w.heap.size w w'
theorem anyB {w w' : World} {bo : Bool} (h : Below w.heap.size w w') : AnyB w (.returned (.bool bo)) w' := ⟨bo, rfl, h⟩

set_option maxHeartbeats 4000000 in
set_option maxRecDepth 100000 in
theorem wrap19 (n : VN) (w : World) (hT : TyIn w n.tA n.tn n.tc) (hU : TyIn w n.uA n.un n.uc) :
    Calls Tryd.prog 68 #[.agg #[.int .i64 n.k, .string n.lab, .string n.nm, .int .i64 n.num, .int .i64 n.many, .slice n.tA n.tn n.tc, .slice n.uA n.un n.uc]] w (AnyB w) := by
  have hb1 : Below w.heap.size w ((w.alloc (.cells #[.int .i64 n.k, .string n.lab, .string n.nm, .int .i64 n.num, .int .i64 n.many, .slice n.tA n.tn n.tc, .slice n.uA n.un n.uc] 38)).alloc (.cells #[.slice n.tA n.tn n.tc, .slice n.uA n.un n.uc] 36)) := ((Below.refl _ _).alloc (Nat.le_refl _) _).alloc (by simp) _
  have hx : ((w.alloc (.cells #[.int .i64 n.k, .string n.lab, .string n.nm, .int .i64 n.num, .int .i64 n.many, .slice n.tA n.tn n.tc, .slice n.uA n.un n.uc] 38)).alloc (.cells #[.slice n.tA n.tn n.tc, .slice n.uA n.un n.uc] 36)).heap[w.heap.size]? = some (.cells #[.int .i64 n.k, .string n.lab, .string n.nm, .int .i64 n.num, .int .i64 n.many, .slice n.tA n.tn n.tc, .slice n.uA n.un n.uc] 38 (0, 0)) := by
    rw [heap_alloc_old _ _ (by simp)]; exact heap_alloc_new w _
  have hy : ((w.alloc (.cells #[.int .i64 n.k, .string n.lab, .string n.nm, .int .i64 n.num, .int .i64 n.many, .slice n.tA n.tn n.tc, .slice n.uA n.un n.uc] 38)).alloc (.cells #[.slice n.tA n.tn n.tc, .slice n.uA n.un n.uc] 36)).heap[w.heap.size + 1]? = some (.cells #[.slice n.tA n.tn n.tc, .slice n.uA n.un n.uc] 36 (0, 0)) := by
    have := heap_alloc_new (w.alloc (.cells #[.int .i64 n.k, .string n.lab, .string n.nm, .int .i64 n.num, .int .i64 n.many, .slice n.tA n.tn n.tc, .slice n.uA n.un n.uc] 38)) (.cells #[.slice n.tA n.tn n.tc, .slice n.uA n.un n.uc] 36)
    rw [show (w.alloc (.cells #[.int .i64 n.k, .string n.lab, .string n.nm, .int .i64 n.num, .int .i64 n.many, .slice n.tA n.tn n.tc, .slice n.uA n.un n.uc] 38)).heap.size = w.heap.size + 1 by simp] at this
    exact this
  have hT1 := hT.since hb1
  have hU1 := hU.since hb1
  have hsz : ((w.alloc (.cells #[.int .i64 n.k, .string n.lab, .string n.nm, .int .i64 n.num, .int .i64 n.many, .slice n.tA n.tn n.tc, .slice n.uA n.un n.uc] 38)).alloc (.cells #[.slice n.tA n.tn n.tc, .slice n.uA n.un n.uc] 36)).heap.size = w.heap.size + 2 := by simp
  obtain ⟨W1, hW1⟩ : ∃ W1, ((w.alloc (.cells #[.int .i64 n.k, .string n.lab, .string n.nm, .int .i64 n.num, .int .i64 n.many, .slice n.tA n.tn n.tc, .slice n.uA n.un n.uc] 38)).alloc (.cells #[.slice n.tA n.tn n.tc, .slice n.uA n.un n.uc] 36)) = W1 := ⟨_, rfl⟩
  rw [hW1] at hb1 hx hy hT1 hU1 hsz
  have HB1 := Lib.hid hb1
  have HX := Lib.hid hx
  have HY := Lib.hid hy
  have HT1 := Lib.hid hT1
  have HU1 := Lib.hid hU1
  have HSZ := Lib.hid hsz
  have HW1 := Lib.hid hW1
  clear hb1 hx hy hT1 hU1 hsz hT hU hW1
  go_enter Tryd.func68, Tryd.ntmps68
  go_wp2_with fail
  rw [HW1.out]
  go_loopw [11] (fun i wr => ∃ k : Nat, i = .int .i64 k ∧ k ≤ 2 ∧ (0 < k → 0 < n.tn) ∧ (1 < k → 0 < n.un) ∧ Below W1.heap.size W1 wr) (fun i _ => 2 - (intOf i).toNat)
  case atStart => exact ⟨0, rfl, by omega, by omega, by omega, Below.refl _ _⟩
  case round =>
    obtain ⟨k, rfl, hk, h1, h2, hB⟩ := hrel
    have HB := Lib.hid hB
    have hbw : Below w.heap.size w wr := HB1.out.trans (hB.mono HB1.out.size)
    have HBW := Lib.hid hbw
    clear hB hbw
    by_cases hlt : k < 2
    · obtain ⟨A, m, c, hc, hty, hnx⟩ : ∃ A m c, wr.cell? ⟨w.heap.size + 1, k, none⟩ = some (.slice A m c) ∧ TyIn wr A m c ∧ (0 < m → (0 < k + 1 → 0 < n.tn) ∧ (1 < k + 1 → 0 < n.un)) := by
        have hy := (HB.out.block (w.heap.size + 1) (by rw [HSZ.out]; omega)).trans HY.out
        rcases Nat.lt_or_ge k 1 with h | h
        · obtain rfl : k = 0 := by omega
          exact ⟨n.tA, n.tn, n.tc, by rw [Lib.cell_of_heap hy]; rfl, HT1.out.since HB.out, fun h => ⟨fun _ => h, fun h => by omega⟩⟩
        · obtain rfl : k = 1 := by omega
          exact ⟨n.uA, n.un, n.uc, by rw [Lib.cell_of_heap hy]; rfl, HU1.out.since HB.out, fun h => ⟨fun _ => h1 (by omega), fun _ => h⟩⟩
      have HNX := Lib.hid hnx
      have hk0 : (0 : Int) ≤ k := by omega
      have hlt' : (k : Int) < 2 := by omega
      clear hnx h1 h2
      rcases hty with rfl | ⟨b, off, L, rfl, rfl, hmc, hmb, hrd, hnm⟩
      · go_wp2_with fail
        refine (Right03_none A c _).mono ?_
        rintro e w2 ⟨rfl, q2⟩
        dsimp only
        go_wp2_with fail
        go_ret
        exact anyB (HBW.out.trans (q2.mono HBW.out.size))
      · by_cases hl0 : L.length = 0
        · rw [hl0] at hc HNX
          go_wp2_with fail
          refine (Right03_none _ c _).mono ?_
          rintro e w2 ⟨rfl, q2⟩
          dsimp only
          go_wp2_with fail
          go_ret
          exact anyB (HBW.out.trans (q2.mono HBW.out.size))
        · have hl : 0 < L.length := by omega
          have hcall := Right03 b off c L hl wr hrd (by omega) hnm
          have HCALL := Lib.hid hcall
          have HRD := Lib.hid hrd
          clear hcall hrd hnm hl0
          go_wp2_with fail
          refine HCALL.out.mono ?_
          rintro e w2 ⟨bo, rfl, _, q2⟩
          dsimp only
          have HB2 := Lib.hid (HB.out.trans (q2.mono HB.out.size))
          have HBW2 := Lib.hid (HBW.out.trans (q2.mono HBW.out.size))
          have HRD2 := Lib.hid (HRD.out.since HRD.out.1 q2)
          clear q2
          cases bo with
          | false =>
            go_wp2_with fail
            go_ret
            exact anyB (HBW2.out)
          | true =>
            have hpl := Plain03 b off c L w2 HRD2.out (by omega)
            have HPL := Lib.hid hpl
            clear hpl
            go_wp2_with fail
            refine HPL.out.mono ?_
            rintro e w3 ⟨bo, rfl, _, rfl⟩
            dsimp only
            cases bo with
            | false =>
              go_wp2_with fail
              go_ret
              exact anyB (HBW2.out)
            | true =>
              obtain ⟨x, _, a0, _, _⟩ := HRD2.out.at_ hl
              simp only [Nat.zero_mul, Nat.add_zero] at a0
              have hl' : (0 : Int) < L.length := by omega
              by_cases h5 : x.k = 5
              · have q5 : (x.k != 5) = false := by rw [bne_eq_false_iff_eq]; exact h5
                clear h5
                go_wp2_with fail
                exact ⟨⟨k + 1, by simp, by omega, (HNX.out hl).1, (HNX.out hl).2, HB2.out⟩, by simp [intOf]; omega⟩
              · have q5 : (x.k != 5) = true := by rw [bne_iff_ne]; exact h5
                clear h5
                go_wp2_with fail
                go_ret
                exact anyB (HBW2.out)
    · obtain rfl : k = 2 := by omega
      have ht := h1 (by omega)
      have hu := h2 (by omega)
      have hx := (HB.out.block w.heap.size (by rw [HSZ.out]; omega)).trans HX.out
      have c5 : wr.cell? ⟨w.heap.size, 5, none⟩ = some (.slice n.tA n.tn n.tc) := by rw [Lib.cell_of_heap hx]; rfl
      have c6 : wr.cell? ⟨w.heap.size, 6, none⟩ = some (.slice n.uA n.un n.uc) := by rw [Lib.cell_of_heap hx]; rfl
      have hsw : w.heap.size < wr.heap.size := by have := HB.out.size; rw [HSZ.out] at this; omega
      rcases HT1.out.since HB.out with h0 | ⟨b, off, L, e1, e2, e3, e4, e5, _⟩
      · omega
      · rcases HU1.out.since HB.out with h0 | ⟨b', off', M, e1', e2', e3', e4', e5', _⟩
        · omega
        · rw [e1, ← e2] at c5
          rw [e1', ← e2'] at c6
          have hag := Agree07 (L.length + M.length) b off n.tc b' off' n.uc L M (Nat.le_refl _) (by omega) (by omega) (by omega) (by omega) wr e5 e5' (by omega)
          have HAG := Lib.hid hag
          have E5 := Lib.hid e5
          have E5' := Lib.hid e5'
          have E2 := Lib.hid e2
          have E2' := Lib.hid e2'
          have C5 := Lib.hid c5
          have C6 := Lib.hid c6
          clear h1 h2 hag e1 e1' e2 e2' e5 e5' hx
          go_wp2_with fail
          refine HAG.out.mono ?_
          rintro e w2 ⟨bo, rfl, q2⟩
          dsimp only
          have HBW2 := Lib.hid (HBW.out.trans (q2.mono HBW.out.size))
          cases bo with
          | false =>
            go_wp2_with fail
            go_ret
            exact anyB HBW2.out
          | true =>
            have d5 : w2.cell? ⟨w.heap.size, 5, none⟩ = some (.slice (some ⟨b, off, none⟩) L.length n.tc) := (q2.cell (p := ⟨w.heap.size, 5, none⟩) hsw).trans C5.out
            have d6 : w2.cell? ⟨w.heap.size, 6, none⟩ = some (.slice (some ⟨b', off', none⟩) M.length n.uc) := (q2.cell (p := ⟨w.heap.size, 6, none⟩) hsw).trans C6.out
            have R1 := Lib.hid (E5.out.since E5.out.1 q2)
            have R2 := Lib.hid (E5'.out.since E5'.out.1 q2)
            clear q2 c5 c6
            go_wp2_with fail
            have hsame : Calls Tryd.prog 33 #[.slice (some ⟨b, off, none⟩) L.length n.tc, .slice (some ⟨b', off', none⟩) M.length n.uc] w2 fun e w' => ∃ bo : Bool, e = .returned (.bool bo) ∧ Below w2.heap.size w2 w' := by
              by_cases hl : L.length = M.length
              · exact Same03 b off n.tc b' off' n.uc L M hl w2 R1.out R2.out (by have := E2.out; omega)
              · exact (Same03_len _ _ _ _ _ _ hl w2).mono fun _ _ ⟨h1, h2⟩ => ⟨false, h1, h2⟩
            refine hsame.mono ?_
            rintro e w3 ⟨bo, rfl, q3⟩
            dsimp only
            have HBW3 := Lib.hid (HBW2.out.trans (q3.mono HBW2.out.size))
            clear q3 hsame
            go_wp2_with fail
            go_ret
            exact anyB HBW3.out
end Shw
end Go.Proofs.YthamcklkmchkiaaDoor
