/-
  DERIVED. LAYER 3 (ty), the reference's, walked: how many children, the end of a node, numbers, plain types.
  DERIVED. LAYER 3 (ty), the reference's, walked: a node's children, the type at a node.
  DERIVED. LAYER 3 (ty), the reference's, walked: the type at a node; and which types are alike, by a bool alone.
  DERIVED. LAYER 3 (ty), the reference's, walked: how deep a row of nodes is (that it answers).
  DERIVED. LAYER 3 (ty), the reference's, walked: are labels such; is it a type (what a yes tells).
  DERIVED. LAYER 3 (ty), the reference's, walked: is it a type (what a yes tells); are types the same (that it answers).
  DERIVED. LAYER 3 (ty), the reference's, walked: are types the same (that it answers, and yes of two empty ones).
-/
import Derived.Test.YthamcklkmchkiaaDoorShTy
import Derived.Deep.QuietTactic
import Derived.BigQuiet
import Derived.RegionTactic
import Derived.BigRegion
namespace Go.Proofs.YthamcklkmchkiaaDoor
open Go.RowKit
namespace Shw
open Gl Glw Sh

set_option maxHeartbeats 1000000 in
set_option maxRecDepth 100000 in
theorem many03 (n : TN) (w : World) : Calls Tryd.prog 75 #[.agg #[.int .i64 n.k, .string n.nm, .int .i64 n.n]] w fun e w' => e = .returned (.int .i64 (manyT n)) ∧ Below w.heap.size w w' := by
  have hb : Below w.heap.size w (w.alloc (.cells #[.int .i64 n.k, .string n.nm, .int .i64 n.n] 66)) := (Below.refl _ _).alloc (Nat.le_refl _) _
  have HB := Lib.hid hb
  clear hb
  by_cases h5 : n.k = 5
  · have hm : manyT n = 2 := by unfold manyT; rw [if_pos h5]
    have q5 : (n.k == 5) = true := by rw [beq_iff_eq]; exact h5
    have HM := Lib.hid hm
    clear hm h5
    go_enter Tryd.func75, Tryd.ntmps75
    go_wp2
    go_ret
    exact ⟨by rw [HM.out]; rfl, HB.out⟩
  · have q5 : (n.k == 5) = false := by rw [beq_eq_false_iff_ne]; exact h5
    by_cases h6 : n.k = 6
    · have hm : manyT n = n.n := by unfold manyT; rw [if_neg h5, if_pos h6]
      have q6 : (n.k == 6) = true := by rw [beq_iff_eq]; exact h6
      have HM := Lib.hid hm
      clear hm h5 h6
      go_enter Tryd.func75, Tryd.ntmps75
      go_wp2
      go_ret
      exact ⟨by rw [HM.out]; rfl, HB.out⟩
    · have q6 : (n.k == 6) = false := by rw [beq_eq_false_iff_ne]; exact h6
      by_cases h7 : n.k = 7
      · have hm : manyT n = n.n := by unfold manyT; rw [if_neg h5, if_neg h6, if_pos h7]
        have q7 : (n.k == 7) = true := by rw [beq_iff_eq]; exact h7
        have HM := Lib.hid hm
        clear hm h5 h6 h7
        go_enter Tryd.func75, Tryd.ntmps75
        go_wp2
        go_ret
        exact ⟨by rw [HM.out]; rfl, HB.out⟩
      · have q7 : (n.k == 7) = false := by rw [beq_eq_false_iff_ne]; exact h7
        have hm : manyT n = 0 := by unfold manyT; rw [if_neg h5, if_neg h6, if_neg h7]
        have HM := Lib.hid hm
        clear hm h5 h6 h7
        go_enter Tryd.func75, Tryd.ntmps75
        go_wp2
        go_ret
        exact ⟨by rw [HM.out]; rfl, HB.out⟩

set_option maxHeartbeats 2000000 in
set_option maxRecDepth 100000 in
theorem End03 (b off cap i : Nat) (L : List TN) (hi : i < L.length) (w : World) (hRV : RdT w b off L) (hL : L.length ≤ 1000000) :
    Calls Tryd.prog 53 #[.slice (some ⟨b, off, none⟩) L.length cap, .int .i64 i] w fun e w' => e = .returned (.int .i64 (i + endT (L.drop i) : Nat)) ∧ Below w.heap.size w w' := by
  have HRV := Lib.hid hRV
  have qi0 : decide ((i : Int) < 0) = false := by simp
  have qi1 : decide ((L.length : Int) ≤ i) = false := by simp; omega
  clear hRV
  go_enter Tryd.func53, Tryd.ntmps53
  go_wp2_with fail
  go_loopw [5, 6] (fun o j wr => ∃ (O : Int) (k : Nat), o = .int .i64 O ∧ j = .int .i64 k ∧ i ≤ k ∧ k ≤ L.length ∧ k + endTo O (L.drop k) = i + endT (L.drop i) ∧ Below w.heap.size w wr) (fun _ j _ => L.length - (intOf j).toNat)
  case atStart => exact ⟨1, i, rfl, rfl, Nat.le_refl _, by omega, rfl, Below.refl _ _⟩
  case round =>
    obtain ⟨O, k, rfl, rfl, hik, hk, heq, hB⟩ := hrel
    have HEQ := Lib.hid heq
    have HB := Lib.hid hB
    clear heq hB
    by_cases hlt : k < L.length
    · obtain ⟨n, hn, a0, a1, a2⟩ := (HRV.out.since HRV.out.1 HB.out).at_ hlt
      have hk0 : (0 : Int) ≤ k := by omega
      have hlt' : (k : Int) < L.length := by omega
      have HN := Lib.hid hn
      clear hn
      have hmany := fun w => many03 n w
      have HMY := Lib.hid hmany
      clear hmany
      go_wp2_with fail
      refine (HMY.out _).mono ?_
      rintro e w1 ⟨rfl, b1⟩
      have HB1 := Lib.hid (HB.out.trans (b1.mono HB.out.size))
      clear b1 a0 a1 a2 HMY
      dsimp only
      obtain ⟨S, hS⟩ : ∃ S, stepTy O n = S := ⟨_, rfl⟩
      have hSw : wrap64 (wrap64 (O - 1) + manyT n) = S := hS
      have HSW := Lib.hid hSw
      have hst := endTo_step O L k n HN.out
      rw [hS] at hst
      have HST := Lib.hid hst
      clear hS hst
      by_cases hz : S = 0
      · have q0 : (S == 0) = true := by rw [beq_iff_eq]; exact hz
        have HZ := Lib.hid hz
        clear hz
        go_wp2_with fail
        go_ret
        refine ⟨ret_int ?_, HB1.out⟩
        have h1 := HST.out
        have h2 := HEQ.out
        rw [if_pos HZ.out] at h1
        omega
      · have q0 : (S == 0) = false := by rw [beq_eq_false_iff_ne]; exact hz
        have HZ := Lib.hid hz
        clear hz
        go_wp2_with fail
        refine ⟨⟨S, k + 1, by rw [HSW.out], by simp, by omega, by omega, ?_, HB1.out⟩, by simp [intOf]; omega⟩
        have h1 := HST.out
        have h2 := HEQ.out
        rw [if_neg HZ.out] at h1
        omega
    · obtain rfl : k = L.length := by omega
      go_wp2_with fail
      go_ret
      refine ⟨ret_int ?_, HB.out⟩
      have := HEQ.out
      rw [List.drop_length, endTo] at this
      omega

def NumPost (n : TN) (w : World) (e : Ending) (w' : World) : Prop := ∃ b : Bool, e = .returned (.bool b) ∧ (b = true → NumOk n) ∧ Below w.heap.size w w'
theorem num_false {n : TN} {w w' : World} (h : Below w.heap.size w w') : NumPost n w (.returned (.bool false)) w' := ⟨false, rfl, fun h => by simp at h, h⟩
theorem num_dec {n : TN} {w w' : World} {p : Prop} [Decidable p] (hp : p → NumOk n) (h : Below w.heap.size w w') : NumPost n w (.returned (.bool (decide p))) w' := ⟨decide p, rfl, fun e => hp (by simpa using e), h⟩
theorem num_bool {n : TN} {w w' : World} {b : Bool} (hp : b = true → NumOk n) (h : Below w.heap.size w w') : NumPost n w (.returned (.bool b)) w' := ⟨b, rfl, hp, h⟩

set_option maxHeartbeats 4000000 in
set_option maxRecDepth 100000 in
theorem numbered03 (n : TN) (w : World) : Calls Tryd.prog 52 #[.agg #[.int .i64 n.k, .string n.nm, .int .i64 n.n]] w (NumPost n w) := by
  have hb : Below w.heap.size w (w.alloc (.cells #[.int .i64 n.k, .string n.nm, .int .i64 n.n] 66)) := (Below.refl _ _).alloc (Nat.le_refl _) _
  have HB := Lib.hid hb
  clear hb
  by_cases h0 : n.k = 0
  · have q0 : (n.k == 0) = true := by rw [beq_iff_eq]; exact h0
    have HK := Lib.hid h0
    clear h0
    go_enter Tryd.func52, Tryd.ntmps52
    go_wp2
    go_ret
    exact num_dec (fun h => .inl ⟨by have := HK.out; omega, h⟩) HB.out
  · have q0 : (n.k == 0) = false := by rw [beq_eq_false_iff_ne]; exact h0
    by_cases h8 : n.k = 8
    · have q8 : (n.k == 8) = true := by rw [beq_iff_eq]; exact h8
      have HK := Lib.hid h8
      clear h0 h8
      go_enter Tryd.func52, Tryd.ntmps52
      go_wp2
      go_ret
      exact num_dec (fun h => .inl ⟨by have := HK.out; omega, h⟩) HB.out
    · have q8 : (n.k == 8) = false := by rw [beq_eq_false_iff_ne]; exact h8
      by_cases h9 : n.k = 9
      · have q9 : (n.k == 9) = true := by rw [beq_iff_eq]; exact h9
        have HK := Lib.hid h9
        clear h0 h8 h9
        go_enter Tryd.func52, Tryd.ntmps52
        go_wp2
        go_ret
        exact num_dec (fun h => .inl ⟨by have := HK.out; omega, h⟩) HB.out
      · have q9 : (n.k == 9) = false := by rw [beq_eq_false_iff_ne]; exact h9
        by_cases h1 : n.k = 1
        · have q1 : (n.k == 1) = true := by rw [beq_iff_eq]; exact h1
          have HK := Lib.hid h1
          clear h0 h8 h9 h1
          go_enter Tryd.func52, Tryd.ntmps52
          go_wp2
          go_ret
          exact num_bool (fun h => .inr (.inl ⟨by have := HK.out; omega, by simpa using h⟩)) HB.out
        · have q1 : (n.k == 1) = false := by rw [beq_eq_false_iff_ne]; exact h1
          by_cases h2 : n.k = 2
          · have q2 : (n.k == 2) = true := by rw [beq_iff_eq]; exact h2
            have HK := Lib.hid h2
            clear h0 h8 h9 h1 h2
            go_enter Tryd.func52, Tryd.ntmps52
            go_wp2
            go_ret
            exact num_bool (fun h => .inr (.inl ⟨by have := HK.out; omega, by simpa using h⟩)) HB.out
          · have q2 : (n.k == 2) = false := by rw [beq_eq_false_iff_ne]; exact h2
            by_cases h3 : n.k = 3
            · have q3 : (n.k == 3) = true := by rw [beq_iff_eq]; exact h3
              have HK := Lib.hid h3
              clear h0 h8 h9 h1 h2 h3
              go_enter Tryd.func52, Tryd.ntmps52
              go_wp2
              go_ret
              exact num_bool (fun h => .inr (.inl ⟨by have := HK.out; omega, by simpa using h⟩)) HB.out
            · have q3 : (n.k == 3) = false := by rw [beq_eq_false_iff_ne]; exact h3
              by_cases h4 : n.k = 4
              · have q4 : (n.k == 4) = true := by rw [beq_iff_eq]; exact h4
                have HK := Lib.hid h4
                clear h0 h8 h9 h1 h2 h3 h4
                go_enter Tryd.func52, Tryd.ntmps52
                go_wp2
                go_ret
                exact num_bool (fun h => .inr (.inl ⟨by have := HK.out; omega, by simpa using h⟩)) HB.out
              · have q4 : (n.k == 4) = false := by rw [beq_eq_false_iff_ne]; exact h4
                by_cases h5 : n.k = 5
                · have q5 : (n.k == 5) = true := by rw [beq_iff_eq]; exact h5
                  have HK := Lib.hid h5
                  clear h0 h8 h9 h1 h2 h3 h4 h5
                  go_enter Tryd.func52, Tryd.ntmps52
                  go_wp2
                  go_ret
                  exact num_bool (fun h => .inr (.inl ⟨by have := HK.out; omega, by simpa using h⟩)) HB.out
                · have q5 : (n.k == 5) = false := by rw [beq_eq_false_iff_ne]; exact h5
                  by_cases h6 : n.k = 6
                  · have q6 : (n.k == 6) = true := by rw [beq_iff_eq]; exact h6
                    have HK := Lib.hid h6
                    clear h0 h8 h9 h1 h2 h3 h4 h5 h6
                    by_cases b0 : 0 ≤ n.n
                    · by_cases b1 : n.n ≤ 50
                      · have hok := Lib.hid (show NumOk n from .inr (.inr (.inl ⟨HK.out, b0, b1⟩)))
                        have hB0 := Lib.hid b0
                        go_enter Tryd.func52, Tryd.ntmps52
                        go_wp2
                        go_ret
                        exact num_bool (fun _ => hok.out) HB.out
                      · have c1 : decide (n.n ≤ 50) = false := by simpa using b1
                        clear b1
                        go_enter Tryd.func52, Tryd.ntmps52
                        go_wp2
                        go_ret
                        exact num_false HB.out
                    · have c0 : decide (0 ≤ n.n) = false := by simpa using b0
                      clear b0
                      go_enter Tryd.func52, Tryd.ntmps52
                      go_wp2
                      go_ret
                      exact num_false HB.out
                  · have q6 : (n.k == 6) = false := by rw [beq_eq_false_iff_ne]; exact h6
                    by_cases h7 : n.k = 7
                    · have q7 : (n.k == 7) = true := by rw [beq_iff_eq]; exact h7
                      have HK := Lib.hid h7
                      clear h0 h8 h9 h1 h2 h3 h4 h5 h6 h7
                      by_cases b0 : 1 ≤ n.n
                      · by_cases b1 : n.n ≤ 50
                        · have hok := Lib.hid (show NumOk n from .inr (.inr (.inr ⟨HK.out, b0, b1⟩)))
                          have hB0 := Lib.hid b0
                          go_enter Tryd.func52, Tryd.ntmps52
                          go_wp2
                          go_ret
                          exact num_bool (fun _ => hok.out) HB.out
                        · have c1 : decide (n.n ≤ 50) = false := by simpa using b1
                          clear b1
                          go_enter Tryd.func52, Tryd.ntmps52
                          go_wp2
                          go_ret
                          exact num_false HB.out
                      · have c0 : decide (1 ≤ n.n) = false := by simpa using b0
                        clear b0
                        go_enter Tryd.func52, Tryd.ntmps52
                        go_wp2
                        go_ret
                        exact num_false HB.out
                    · have q7 : (n.k == 7) = false := by rw [beq_eq_false_iff_ne]; exact h7
                      clear h0 h8 h9 h1 h2 h3 h4 h5 h6 h7
                      go_enter Tryd.func52, Tryd.ntmps52
                      go_wp2
                      go_ret
                      exact num_false HB.out

/-- No variable stands in it. -/
def PlainT (L : List TN) : Prop := ∀ n ∈ L, n.k ≠ 8 ∧ n.k ≠ 9
def PlainPost (L : List TN) (w : World) (e : Ending) (w' : World) : Prop := ∃ b : Bool, e = .returned (.bool b) ∧ (b = true → PlainT L) ∧ w = w'

set_option maxHeartbeats 2000000 in
set_option maxRecDepth 100000 in
theorem Plain03 (b off cap : Nat) (L : List TN) (w : World) (hRV : RdT w b off L) (hL : L.length ≤ 1000000) :
    Calls Tryd.prog 35 #[.slice (some ⟨b, off, none⟩) L.length cap] w (PlainPost L w) := by
  have HRV := Lib.hid hRV
  clear hRV
  go_enter Tryd.func35, Tryd.ntmps35
  go_wp2
  go_loop [3] (fun i => ∃ k : Nat, k ≤ L.length ∧ i = .int .i64 k ∧ ∀ j n, j < k → L[j]? = some n → n.k ≠ 8 ∧ n.k ≠ 9) (fun i => L.length - (intOf i).toNat)
  case atStart => exact ⟨0, Nat.zero_le _, rfl, fun j n h => by omega⟩
  case round =>
    obtain ⟨k, hk, rfl, hall⟩ := hrel
    have HALL := Lib.hid hall
    clear hall
    by_cases hlt : k < L.length
    · obtain ⟨n, hn, a0, a1, a2⟩ := HRV.out.at_ hlt
      have hk0 : (0 : Int) ≤ k := by omega
      have hlt' : (k : Int) < L.length := by omega
      have HN := Lib.hid hn
      clear hn a1 a2
      by_cases h8 : n.k = 8
      · have q8 : (n.k == 8) = true := by rw [beq_iff_eq]; exact h8
        clear h8
        go_wp2
        go_ret
        exact ⟨false, rfl, fun h => by simp at h, rfl⟩
      · have q8 : (n.k == 8) = false := by rw [beq_eq_false_iff_ne]; exact h8
        by_cases h9 : n.k = 9
        · have q9 : (n.k == 9) = true := by rw [beq_iff_eq]; exact h9
          clear h8 h9
          go_wp2
          go_ret
          exact ⟨false, rfl, fun h => by simp at h, rfl⟩
        · have q9 : (n.k == 9) = false := by rw [beq_eq_false_iff_ne]; exact h9
          have H8 := Lib.hid h8
          have H9 := Lib.hid h9
          clear h8 h9
          go_wp2
          go_round
          case rel =>
            refine ⟨k + 1, by omega, by go_num, fun j x hj hx => ?_⟩
            by_cases e : j = k
            · subst e
              rw [HN.out] at hx
              obtain rfl := Option.some.inj hx
              exact ⟨H8.out, H9.out⟩
            · exact HALL.out j x (by omega) hx
          case measure => simp [intOf]; omega
    · obtain rfl : k = L.length := by omega
      go_wp2
      go_ret
      refine ⟨true, rfl, fun _ n hn => ?_, rfl⟩
      obtain ⟨i, hi, rfl⟩ := List.getElem_of_mem hn
      exact HALL.out i _ hi (List.getElem?_eq_getElem hi)
end Shw
end Go.Proofs.YthamcklkmchkiaaDoor
namespace Go.Proofs.YthamcklkmchkiaaDoor
open Go.RowKit
namespace Shw
open Gl Glw Sh

theorem infoInt : (Tryd.prog.info? 3).map (fun i => (i.zero, i.size, i.bytes)) = some (some (.int .i64 0), 1, 8) := by kernel_rfl
theorem infoTN : (Tryd.prog.info? 66).map (fun i => (i.zero, i.size, i.bytes)) = some (some (.agg #[.int .i64 0, .string ⟨#[]⟩, .int .i64 0]), 3, 32) := by kernel_rfl

/-- A slice of places of the call's own. -/
def Ints (w : World) (base : Nat) (v : Go.Value) (ps : List Nat) : Prop := w.ownsRow base 3 1 v ps.length (ps.map fun p => Go.Value.int .i64 (p : Nat))
theorem Ints.below {w w' : World} {base : Nat} {v : Go.Value} {ps : List Nat} (h : Ints w base v ps) (hb : Below w.heap.size w w') : Ints w' base v ps := own_keep h fun k hk => hb.block k (own_lt h hk).2
theorem Ints.at_ {w : World} {base : Nat} {v : Go.Value} {ps : List Nat} (h : Ints w base v ps) {i p : Nat} (hi : ps[i]? = some p) : ∃ g cap, v = .slice (some ⟨g, 0, none⟩) ps.length cap ∧ ps.length ≤ cap ∧ base ≤ g ∧ g < w.heap.size ∧ w.cell? ⟨g, i, none⟩ = some (.int .i64 (p : Nat)) := by
  have hlt : i < ps.length := by
    rcases Nat.lt_or_ge i ps.length with h' | h'
    · exact h'
    · rw [List.getElem?_eq_none h'] at hi; cases hi
  obtain ⟨g, cap, hv, hb, hg⟩ := World.ownsRow.form h (by omega)
  subst hv
  refine ⟨g, cap, rfl, ?_, hb, hg, ?_⟩
  · rcases h.2 with ⟨h', _⟩ | ⟨g', cap', cur, h', _, _, hc, _⟩
    · simp at h'
    · simp only [Value.slice.injEq, Option.some.injEq, Addr.mk.injEq, and_true, true_and] at h'
      omega
  · rw [World.ownsRow.cellAt h i (by omega), List.getElem?_map, hi]
    rfl

set_option maxHeartbeats 4000000 in
set_option maxRecDepth 100000 in
theorem Kids03 (b off cap i : Nat) (L : List TN) (hil : i < L.length) (w : World) (hRV : RdT w b off L) (hL : L.length ≤ 1000000) :
    Calls Tryd.prog 76 #[.slice (some ⟨b, off, none⟩) L.length cap, .int .i64 i] w fun e w' => ∃ v, e = .returned v ∧ Ints w' w.heap.size v (kidsT L i) ∧ Below w.heap.size w w' := by
  obtain ⟨i0, hi, hz0, hz1, hz2⟩ := info_parts infoInt
  obtain ⟨n, hn, b0, b1, b2⟩ := hRV.at_ hil
  have hkt : kidsT L i = kidPos L (manyT n).toNat (i + 1) := by unfold kidsT; rw [hn]
  rw [hkt]
  have qi0 : decide ((i : Int) < 0) = false := by simp
  have qi1 : decide (L.length ≤ i) = false := by simp; omega
  have HRV := Lib.hid hRV
  have HN := Lib.hid hn
  have HI := Lib.hid hi
  have HZ0 := Lib.hid hz0
  have HZ1 := Lib.hid hz1
  have HZ2 := Lib.hid hz2
  have hE : ∀ i w, i < L.length → RdT w b off L → Calls Tryd.prog 53 #[.slice (some ⟨b, off, none⟩) L.length cap, .int .i64 (i : Nat)] w fun e w' => e = .returned (.int .i64 (i + endT (L.drop i) : Nat)) ∧ Below w.heap.size w w' := fun i w hi hR => End03 b off cap i L hi w hR hL
  have HEn := Lib.hid hE
  have hmy := fun w => many03 n w
  have HMY := Lib.hid hmy
  clear hRV hn hi hz0 hz1 hz2 hE hmy b0 b1 b2 hkt
  go_enter Tryd.func76, Tryd.ntmps76
  go_wp2_with fail
  go_loopw [5, 6, 7] (fun o a k wr => ∃ (at' c : Nat) (done : List Nat), a = .int .i64 at' ∧ k = .int .i64 c ∧ done.length = c ∧ i < at' ∧ at' ≤ L.length ∧ c < at' ∧ kidPos L (manyT n).toNat (i + 1) = done ++ kidPos L ((manyT n).toNat - c) at' ∧
    Ints wr w.heap.size o done ∧ Below w.heap.size w wr) (fun _ a _ _ => L.length - (intOf a).toNat)
  case atStart =>
    exact ⟨i + 1, 0, [], by simp, rfl, rfl, by omega, by omega, by omega, by rw [List.nil_append, Nat.sub_zero], World.ownsRow_lit w #[] 0 (Nat.le_refl _) (Nat.zero_le _) rfl, (Below.refl _ _).alloc (Nat.le_refl _) _⟩
  case round =>
    obtain ⟨at', c, done, rfl, rfl, hdl, ha1, ha2, hca, heq, hrows, hB⟩ := hrel
    have HEQ := Lib.hid heq
    have HROWS := Lib.hid hrows
    have HB := Lib.hid hB
    have HDL := Lib.hid hdl
    have HR := Lib.hid (HRV.out.since HRV.out.1 hB)
    clear heq hrows hB hdl
    obtain ⟨n', hn', b0, b1, b2⟩ := HR.out.at_ hil
    have hnn : n' = n := by
      have := HN.out
      rw [hn'] at this
      exact Option.some.inj this
    subst hnn
    clear hn'
    have ha0 : (0 : Int) ≤ at' := by omega
    have hi0 : (0 : Int) ≤ i := by omega
    have hi1 : (i : Int) < L.length := by omega
    go_wp2_with fail
    refine (HMY.out _).mono ?_
    rintro e w1 ⟨rfl, q1⟩
    dsimp only
    clear b0 b1 b2
    have HB1 := Lib.hid (HB.out.trans (q1.mono HB.out.size))
    have HW1 := Lib.hid (HROWS.out.below q1)
    have HR1 := Lib.hid (HR.out.since (Nat.lt_of_lt_of_le HRV.out.1 HB.out.size) q1)
    clear q1 HROWS HB HR HMY
    by_cases hc : (c : Int) < manyT n'
    · have qc : decide ((c : Int) < manyT n') = true := by simpa using hc
      by_cases ha : at' < L.length
      · have qa : decide ((at' : Int) < L.length) = true := by simp; omega
        have he := endT_drop L at' ha
        have hks : kidPos L ((manyT n').toNat - c) at' = at' :: kidPos L ((manyT n').toNat - (c + 1)) (at' + endT (L.drop at')) := by
          rw [show (manyT n').toNat - c = (manyT n').toNat - (c + 1) + 1 by omega, kidPos, if_pos ha]
        have HKS := Lib.hid hks
        obtain ⟨T, hT⟩ : ∃ T, at' + endT (L.drop at') = T := ⟨_, rfl⟩
        have hTa : at' < T ∧ T ≤ L.length := by omega
        have HT := Lib.hid hT
        have hml : (done.map fun p => Go.Value.int .i64 (p : Nat)).length = c := by rw [List.length_map]; exact HDL.out
        have hbw : w.heap.size ≤ w1.heap.size := HB1.out.size
        have OWN := Lib.hid (HW1.out.below ((Below.refl _ _).alloc (Nat.le_refl _) (.cells #[.int .i64 at'] 3)))
        have hs1 : (w1.alloc (.cells #[.int .i64 at'] 3)).heap.size = w1.heap.size + 1 := by simp
        have HS1 := Lib.hid hs1
        have hb2 : Below w1.heap.size w1 (w1.alloc (.cells #[.int .i64 at'] 3)) := (Below.refl _ _).alloc (Nat.le_refl _) _
        have HB2 := Lib.hid hb2
        have hcl : c ≤ 1000000 := by omega
        clear hks hc hT he hml hs1 hb2
        go_wp2_with (at_builtin; refine wpList_append_lies _ rfl (.tmp 35) (.tmp 37) 43 rfl w.heap.size 3 i0 _ 1 8 Tryd.underlying43 HI.out HZ0.out HZ1.out HZ2.out rfl (by decide) u5 _ _ rfl OWN.out ⟨w1.heap.size, 0, none⟩ 1 1 [.int .i64 at'] rfl rfl (cell_one_new _ _ _) (by intro u hu; rw [List.mem_singleton.1 hu]; rfl) (by decide) (by rw [HDL.out]; unfold maxLen; omega) (by rw [HDL.out]; omega) (by rw [HS1.out]; omega) _ HS1.out ?_; intro g2 cap2 w4 hown2 hgr2 hat2 hlt2; have HO2 := Lib.hid hown2; have HG2 := Lib.hid hgr2; clear hown2 hgr2 hat2)
        have hb4 : Below w.heap.size w w4 := (HB1.out.trans (HB2.out.mono hbw)).grown HG2.out (by rw [HS1.out]; omega) (fun k hk => (own_lt OWN.out hk).1)
        have HB4 := Lib.hid hb4
        have hE4 := HEn.out at' w4 ha (HRV.out.since HRV.out.1 hb4)
        rw [HT.out] at hE4
        have HE4 := Lib.hid hE4
        clear hb4 hE4
        refine HE4.out.mono ?_
        rintro e w5 ⟨rfl, q5⟩
        dsimp only
        have HB5 := Lib.hid (HB4.out.trans (q5.mono HB4.out.size))
        have hown : w4.ownsRow w.heap.size 3 1 (.slice (some ⟨g2, 0, none⟩) (done.length + 1) cap2) (done.length + 1) ((done.map fun p => Go.Value.int .i64 (p : Nat)) ++ [.int .i64 at']) := HO2.out
        have hi5 : Ints w5 w.heap.size (.slice (some ⟨g2, 0, none⟩) (done.length + 1) cap2) (done ++ [at']) := by
          unfold Ints
          rw [List.length_append, List.map_append]
          exact own_keep hown fun k hk => q5.block k (own_lt hown hk).2
        have HI5 := Lib.hid hi5
        clear q5 hown hi5 HEn
        go_wp2_with fail
        refine ⟨⟨T, c + 1, done ++ [at'], rfl, by simp, by rw [List.length_append, HDL.out]; rfl, by omega, by omega, by omega, ?_, HI5.out, HB5.out⟩, by simp [intOf]; omega⟩
        rw [HEQ.out, HKS.out, HT.out, List.append_assoc]
        rfl
      · have qa : decide ((at' : Int) < L.length) = false := by simp; omega
        have hz : kidPos L ((manyT n').toNat - c) at' = [] := by
          cases (manyT n').toNat - c with
          | zero => rw [kidPos]
          | succ m => rw [kidPos, if_neg ha]
        have HZ := Lib.hid hz
        clear hc hz HEn
        go_wp2_with fail
        go_ret
        refine ⟨u5, rfl, ?_, HB1.out⟩
        rw [HEQ.out, HZ.out, List.append_nil]
        exact HW1.out
    · have qc : decide ((c : Int) < manyT n') = false := by simpa using hc
      have hz : (manyT n').toNat - c = 0 := by omega
      have HZ := Lib.hid hz
      clear hc hz HEn
      go_wp2_with fail
      go_ret
      refine ⟨u5, rfl, ?_, HB1.out⟩
      rw [HEQ.out, HZ.out, kidPos, List.append_nil]
      exact HW1.out
end Shw
end Go.Proofs.YthamcklkmchkiaaDoor
namespace Go.Proofs.YthamcklkmchkiaaDoor
open Go.RowKit
namespace Shw
open Gl Glw Sh

theorem bareT_cells (l : List TN) (h : l ≠ []) : tnsC (bareT l) = (tnsC l).set 1 (.string ⟨#[]⟩) := by
  cases l with
  | nil => exact absurd rfl h
  | cons t r => rfl

set_option maxHeartbeats 4000000 in
set_option maxRecDepth 100000 in
theorem Part03 (b off cap i : Nat) (L : List TN) (hil : i < L.length) (hcap : L.length ≤ cap) (w : World) (hRV : RdT w b off L) (hL : L.length ≤ 1000000) :
    Calls Tryd.prog 106 #[.slice (some ⟨b, off, none⟩) L.length cap, .int .i64 i] w fun e w' => ∃ g c, e = .returned (.slice (some ⟨g, 0, none⟩) (partT L i).length c) ∧ (partT L i).length ≤ c ∧ w.heap.size ≤ g ∧ RdT w' g 0 (partT L i) ∧ (∃ cs fr, w'.heap[g]? = some (.cells cs 66 fr)) ∧ Below w.heap.size w w' := by
  obtain ⟨i0, hi, hz0, hz1, hz2⟩ := info_parts infoTN
  have qi0 : decide ((i : Int) < 0) = false := by simp
  have qi1 : decide (L.length ≤ i) = false := by simp; omega
  have HRV := Lib.hid hRV
  have HI := Lib.hid hi
  have HZ0 := Lib.hid hz0
  have HZ1 := Lib.hid hz1
  have HZ2 := Lib.hid hz2
  have hb0 : Below w.heap.size w (w.alloc (.cells #[] 66)) := (Below.refl _ _).alloc (Nat.le_refl _) _
  have HB0 := Lib.hid hb0
  have he := endT_drop L i hil
  have hE := End03 b off cap i L hil _ (hRV.since hRV.1 hb0) hL
  obtain ⟨T, hT⟩ : ∃ T, i + endT (L.drop i) = T := ⟨_, rfl⟩
  rw [hT] at hE he
  have hpl := partT_len L i hil
  have hpe : partT L i = bareT ((L.drop i).take (T - i)) := by unfold partT; congr 2; omega
  have hpn : (partT L i).length = T - i := by omega
  have hs0 : (w.alloc (.cells #[] 66)).heap.size = w.heap.size + 1 := by simp
  have HS0 := Lib.hid hs0
  rw [hs0] at hE
  have HE1 := Lib.hid hE
  have HPE := Lib.hid hpe
  have HPN := Lib.hid hpn
  have HT := Lib.hid hT
  clear hRV hi hz0 hz1 hz2 hb0 hE hT hpl hpe hpn hs0
  go_enter Tryd.func106, Tryd.ntmps106
  go_wp2_with fail
  refine HE1.out.mono ?_
  rintro e w2 ⟨rfl, q2⟩
  dsimp only
  have hb2 : Below (w.heap.size + 1) (w.alloc (.cells #[] 66)) w2 := q2
  have HB2 := Lib.hid (HB0.out.trans (hb2.mono (by omega)))
  have own1 : w2.ownsRow w.heap.size 66 3 (.slice (some ⟨w.heap.size, 0, none⟩) 0 0) 0 [] :=
    own_keep (World.ownsRow_lit w #[] 0 (Nat.le_refl _) (Nat.zero_le _) rfl) (fun k hk => hb2.block k (by simp [Value.ownBlock] at hk; omega))
  obtain ⟨K, hK⟩ : ∃ K, (L.drop i).take (T - i) = K := ⟨_, rfl⟩
  have hKl : K.length = T - i := by rw [← hK, List.length_take, List.length_drop]; omega
  have hcw : Cells w2 b (off + i * 3) (tnsC K) := by
    have := ((HRV.out.since HRV.out.1 HB2.out).sub i (T - i)).cells
    rw [hK] at this
    exact this
  have hln : (tnsC K).length = (T - i) * 3 := by rw [tnsC_len, hKl]
  obtain ⟨t0, r0, rfl⟩ : ∃ t0 r0, K = t0 :: r0 := by
    cases K with
    | nil => rw [List.length_nil] at hKl; have := HT.out; omega
    | cons t r => exact ⟨t, r, rfl⟩
  have OWN1 := Lib.hid own1
  have NEWS1 := Lib.hid hcw.add
  have LEN1 := Lib.hid hln
  have ONE1 := Lib.hid (tnsC_one (t0 :: r0))
  have HKK := Lib.hid hK
  have hE0 : 0 < T - i := by have := HT.out; omega
  have hbw : w.heap.size + 1 ≤ w2.heap.size := by have := hb2.size; rw [HS0.out] at this; exact this
  clear own1 hcw hln hK hb2 q2 HE1
  go_wp2_with (at_builtin; refine wpList_append_lies _ rfl (.tmp 14) (.tmp 20) 36 rfl w.heap.size 66 i0 _ 3 32 Tryd.underlying36 HI.out HZ0.out HZ1.out HZ2.out rfl (by decide) (.slice (some ⟨w.heap.size, 0, none⟩) 0 0) 0 [] rfl OWN1.out ⟨b, off + i * 3, none⟩ (T - i) (cap - i) (tnsC (t0 :: r0)) rfl LEN1.out NEWS1.out ONE1.out hE0 (by unfold maxLen; omega) (by omega) (by omega) _ rfl ?_; intro g1 cap1 w3 hown1 hgr1 hat1 hlt1; have c1 : w3.cell? ⟨g1, 1, none⟩ = some (.string t0.nm) := (hown1.cellAt 1 (by omega)); have f1 : w3.frozen? ⟨g1, 1, none⟩ = false := hown1.frozenAt 1; have HO1 := Lib.hid hown1; have HG1 := Lib.hid hgr1; clear hown1 hgr1 hat1)
  go_ret
  have hown : w3.ownsRow w.heap.size 66 3 (.slice (some ⟨g1, 0, none⟩) (0 + (T - i)) cap1) (0 + (T - i)) ([] ++ tnsC (t0 :: r0)) := HO1.out
  rw [Nat.zero_add, List.nil_append] at hown
  have hst := hown.stored 1 (.string ⟨#[]⟩)
  have hg : w.heap.size ≤ g1 := (own_lt hown (k := g1) rfl).1
  have hnc : T - i ≤ cap1 := by
    rcases hown.2 with ⟨h', _⟩ | ⟨g', cap', cur, h', _, _, hc, _⟩
    · simp at h'
    · simp only [Value.slice.injEq, Option.some.injEq, Addr.mk.injEq, and_true, true_and] at h'
      omega
  refine ⟨g1, cap1, by rw [HPN.out]; rfl, by rw [HPN.out]; exact hnc, hg, ?_, ?_, ?_⟩
  · refine RdT.of_cells (by simp; exact hlt1) fun j u hj => ?_
    rw [HPE.out, HKK.out, bareT_cells _ (by simp)] at hj
    rw [Nat.zero_add]
    have hjl : j < ((tnsC (t0 :: r0)).set 1 (.string ⟨#[]⟩)).length := by
      rcases Nat.lt_or_ge j ((tnsC (t0 :: r0)).set 1 (.string ⟨#[]⟩)).length with h | h
      · exact h
      · rw [List.getElem?_eq_none h] at hj; cases hj
    rw [hst.1.cellAt j (by rw [List.length_set, LEN1.out] at hjl; exact hjl)]
    exact hj
  · rcases hst.1.2 with ⟨h', _⟩ | ⟨g', cap', cur, h', _, hh, _⟩
    · simp at h'
    · simp only [Value.slice.injEq, Option.some.injEq, Addr.mk.injEq, and_true, true_and] at h'
      obtain ⟨rfl, _⟩ := h'
      exact ⟨cur, (0, 0), hh⟩
  · exact (HB2.out.grown HG1.out (by omega) (fun k hk => by simp [Value.ownBlock] at hk; omega)).setCell hg _
end Shw
end Go.Proofs.YthamcklkmchkiaaDoor
namespace Go.Proofs.YthamcklkmchkiaaDoor
open Go.RowKit
namespace Shw
open Gl Glw Sh

/-- A slice of numbers of the call's own, behind an address. -/
def Nums (w : World) (base : Nat) (v : Go.Value) : Prop := ∃ (g n cap : Nat) (xs : List Int), v = .slice (some ⟨g, 0, none⟩) n cap ∧ n ≤ 100 ∧ xs.length = n ∧ (∀ x ∈ xs, -9223372036854775808 ≤ x ∧ x ≤ 9223372036854775807) ∧ w.ownsRow base 3 1 (.slice (some ⟨g, 0, none⟩) n cap) n (xs.map fun x => Go.Value.int .i64 x)
def lenV : Go.Value → Nat
  | .slice _ n _ => n
  | _ => 0
theorem own_cut {w : World} {base e g n m cap : Nat} {xs : List Go.Value} (h : w.ownsRow base e 1 (.slice (some ⟨g, 0, none⟩) n cap) n xs) (hm : m ≤ n) : w.ownsRow base e 1 (.slice (some ⟨g, 0, none⟩) m cap) m (xs.take m) := by
  refine ⟨by rw [List.length_take, h.1]; omega, ?_⟩
  rcases h.2 with ⟨h', _⟩ | ⟨g', cap', cur, h', hb, hg, hnc, hcm, hcs, ht⟩
  · simp at h'
  · simp only [Value.slice.injEq, Option.some.injEq, Addr.mk.injEq, and_true, true_and] at h'
    obtain ⟨rfl, rfl⟩ := h'
    exact .inr ⟨g, cap, cur, rfl, hb, hg, by omega, hcm, hcs, by rw [← ht, List.take_take]; congr 1; omega⟩

theorem own_cap {w : World} {base e size g n cap : Nat} {xs : List Go.Value} (h : w.ownsRow base e size (.slice (some ⟨g, 0, none⟩) n cap) n xs) : n ≤ cap := by
  rcases h.2 with ⟨h', _⟩ | ⟨g', cap', cur, h', _, _, hc, _⟩
  · simp at h'
  · simp only [Value.slice.injEq, Option.some.injEq, Addr.mk.injEq, and_true, true_and] at h'
    omega
theorem Nums.cut {w : World} {base g n cap : Nat} {xs : List Int} (hn : n ≤ 100) (hx : xs.length = n) (hb : ∀ x ∈ xs, -9223372036854775808 ≤ x ∧ x ≤ 9223372036854775807) (h : w.ownsRow base 3 1 (.slice (some ⟨g, 0, none⟩) n cap) n (xs.map fun x => Go.Value.int .i64 x)) (m : Nat) (hm : m ≤ n) :
    Nums w base (.slice (some ⟨g, 0, none⟩) m cap) :=
  ⟨g, m, cap, xs.take m, rfl, by omega, by rw [List.length_take]; omega, fun x hx => hb x (List.mem_of_mem_take hx), by rw [List.map_take]; exact own_cut h hm⟩
theorem wrap64_b (z : Int) : -9223372036854775808 ≤ wrap64 z ∧ wrap64 z ≤ 9223372036854775807 := by unfold wrap64; omega

set_option maxHeartbeats 4000000 in
set_option maxRecDepth 100000 in
theorem shallow03 (b off cap : Nat) (L : List TN) (w : World) (hRV : RdT w b off L) (hL : L.length ≤ 1000000) (hN : ∀ n ∈ L, 0 ≤ manyT n ∧ manyT n ≤ 50) :
    Calls Tryd.prog 54 #[.slice (some ⟨b, off, none⟩) L.length cap] w fun e w' => ∃ bo : Bool, e = .returned (.bool bo) ∧ Below w.heap.size w w' := by
  obtain ⟨i0, hi, hz0, hz1, hz2⟩ := info_parts infoInt
  have HRV := Lib.hid hRV
  have HI := Lib.hid hi
  have HZ0 := Lib.hid hz0
  have HZ1 := Lib.hid hz1
  have HZ2 := Lib.hid hz2
  have HNN := Lib.hid hN
  have hmy := fun n w => many03 n w
  have HMY := Lib.hid hmy
  clear hRV hi hz0 hz1 hz2 hmy hN
  go_enter Tryd.func54, Tryd.ntmps54
  go_wp2_with fail
  go_loopw [3, 4] (fun o k wr => ∃ k' : Nat, k = .int .i64 k' ∧ k' ≤ L.length ∧ Nums wr w.heap.size o ∧ Below w.heap.size w wr) (fun _ k _ => L.length - (intOf k).toNat)
  case atStart => exact ⟨0, rfl, Nat.zero_le _, ⟨w.heap.size, 0, 0, [], rfl, by omega, rfl, fun x h => by simp at h, World.ownsRow_lit w #[] 0 (Nat.le_refl _) (Nat.zero_le _) rfl⟩, (Below.refl _ _).alloc (Nat.le_refl _) _⟩
  case round =>
    obtain ⟨k, rfl, hk, ⟨g, n, cp, xs, rfl, hn, hxl, hxb, hown⟩, hB⟩ := hrel
    have HB := Lib.hid hB
    have HO := Lib.hid hown
    have HXB := Lib.hid hxb
    have HXL := Lib.hid hxl
    clear hB hown hxb hxl
    by_cases hlt : k < L.length
    · obtain ⟨t, ht, a0, a1, a2⟩ := (HRV.out.since HRV.out.1 HB.out).at_ hlt
      have hk0 : (0 : Int) ≤ k := by omega
      have hlt' : (k : Int) < L.length := by omega
      have hmb := HNN.out t (List.mem_of_getElem? ht)
      clear ht
      by_cases h100 : 100 ≤ n
      · have q1 : decide ((100 : Int) ≤ n) = true := by simp; omega
        go_wp2_with fail
        go_ret
        exact ⟨false, rfl, HB.out⟩
      · have q1 : decide ((100 : Int) ≤ n) = false := by simp; omega
        go_wp2_with fail
        refine (HMY.out t _).mono ?_
        rintro e w1 ⟨rfl, q⟩
        dsimp only
        have hb1 := HB.out.trans (q.mono HB.out.size)
        have own1 := own_keep HO.out (fun k hk => (q.block k (own_lt HO.out hk).2).trans rfl)
        have own2 := own_keep own1 (w' := w1.alloc (.cells #[.int .i64 (manyT t)] 3)) (fun k hk => Below.heap_alloc _ _ _ (own_lt own1 hk).2)
        have hs1 : (w1.alloc (.cells #[.int .i64 (manyT t)] 3)).heap.size = w1.heap.size + 1 := by simp
        have hb2 : Below w.heap.size w (w1.alloc (.cells #[.int .i64 (manyT t)] 3)) := hb1.alloc hb1.size _
        have hbw : w.heap.size ≤ w1.heap.size := hb1.size
        have OWN := Lib.hid own2
        have HS1 := Lib.hid hs1
        have HB2 := Lib.hid hb2
        clear own1 own2 hs1 hb2 hb1 q a0 a1 a2
        go_wp2_with (at_builtin; refine wpList_append_lies _ rfl (.tmp 15) (.tmp 21) 43 rfl w.heap.size 3 i0 _ 1 8 Tryd.underlying43 HI.out HZ0.out HZ1.out HZ2.out rfl (by decide) (.slice (some ⟨g, 0, none⟩) n cp) n _ rfl OWN.out ⟨w1.heap.size, 0, none⟩ 1 1 [.int .i64 (manyT t)] rfl rfl (cell_one_new _ _ _) (by intro u hu; rw [List.mem_singleton.1 hu]; rfl) (by decide) (by unfold maxLen; omega) (by omega) (by rw [HS1.out]; omega) _ HS1.out ?_; intro g2 cap2 w4 hown2 hgr2 hat2 hlt2; have HO2 := Lib.hid hown2; have HG2 := Lib.hid hgr2; clear hown2 hgr2 hat2)
        have hb4 : Below w.heap.size w w4 := HB2.out.grown HG2.out (by rw [HS1.out]; omega) (fun k hk => (own_lt OWN.out hk).1)
        have hown4 : w4.ownsRow w.heap.size 3 1 (.slice (some ⟨g2, 0, none⟩) (n + 1) cap2) (n + 1) ((xs ++ [manyT t]).map fun x => Go.Value.int .i64 x) := by
          rw [List.map_append]; exact HO2.out
        have hnums : Nums w4 w.heap.size (.slice (some ⟨g2, 0, none⟩) (n + 1) cap2) := ⟨g2, n + 1, cap2, _, rfl, by omega, by rw [List.length_append, HXL.out]; rfl, fun x hx => by
          rcases List.mem_append.1 hx with hx | hx
          · exact HXB.out x hx
          · rw [List.mem_singleton.1 hx]; omega, hown4⟩
        have HNU := Lib.hid hnums
        have HB4 := Lib.hid hb4
        clear hb4 hown4 hnums
        go_loopw [3] (fun o wr => Nums wr w.heap.size o ∧ Below w.heap.size w wr) (fun o _ => lenV o)
        case atStart => exact ⟨HNU.out, HB4.out⟩
        case round =>
          obtain ⟨⟨g, n, cp, xs, rfl, hn, hxl, hxb, hown⟩, hB⟩ := hrel
          have HB := Lib.hid hB
          have HO := Lib.hid hown
          have HXB := Lib.hid hxb
          have HXL := Lib.hid hxl
          clear hB hown hxb hxl
          by_cases hn0 : 0 < n
          · obtain ⟨z, hz⟩ : ∃ z, xs[n - 1]? = some z := ⟨_, List.getElem?_eq_getElem (by rw [HXL.out]; omega)⟩
            have hc : wr.cell? ⟨g, n - 1, none⟩ = some (.int .i64 z) := by
              rw [HO.out.cellAt (n - 1) (by omega), List.getElem?_map, hz]; rfl
            have hn0' : decide ((0 : Int) < n) = true := by simp; omega
            have hcp := own_cap HO.out
            have hs1 : (1 : Int) ≤ n := by omega
            have hs2 : (n : Int) - 1 ≤ cp := by omega
            clear hz
            by_cases hz0 : z = 0
            · have q0 : (z == 0) = true := by rw [beq_iff_eq]; exact hz0
              clear hz0
              by_cases hn1 : 1 < n
              · obtain ⟨y, hy⟩ : ∃ y, xs[n - 1 - 1]? = some y := ⟨_, List.getElem?_eq_getElem (by rw [HXL.out]; omega)⟩
                have hc2 : wr.cell? ⟨g, n - 1 - 1, none⟩ = some (.int .i64 y) := by
                  rw [HO.out.cellAt (n - 1 - 1) (by omega), List.getElem?_map, hy]; rfl
                have hf2 : wr.frozen? ⟨g, n - 1 - 1, none⟩ = false := HO.out.frozenAt _
                have hyb := HXB.out y (List.mem_of_getElem? hy)
                go_wp2
                have hcut := Nums.cut hn HXL.out HXB.out HO.out (n - 1) (by omega)
                obtain ⟨g', m, cp', xs', he, hm, hxl, hxb, hown⟩ := hcut
                simp only [Value.slice.injEq, Option.some.injEq, Addr.mk.injEq, and_true] at he
                obtain ⟨rfl, rfl, rfl⟩ := he
                have hst := hown.stored (n - 1 - 1) (.int .i64 (wrap64 (y - 1)))
                refine ⟨⟨⟨g, n - 1, cp, xs'.set (n - 1 - 1) (wrap64 (y - 1)), rfl, hm, by rw [List.length_set, hxl], fun x hx => ?_, by rw [List.map_set]; exact hst.1⟩, HB.out.setCell (own_lt HO.out (k := g) rfl).1 _⟩, by simp [lenV]; omega⟩
                rcases List.mem_or_eq_of_mem_set hx with hx | rfl
                · exact hxb x hx
                · exact wrap64_b _
              · obtain rfl : n = 1 := by omega
                go_wp2
                exact ⟨⟨Nums.cut hn HXL.out HXB.out HO.out 0 (by omega), HB.out⟩, by simp [lenV]⟩
            · have q0 : (z == 0) = false := by rw [beq_eq_false_iff_ne]; exact hz0
              clear hz0
              go_wp2
              exact ⟨⟨k + 1, by simp, by omega, ⟨g, n, cp, xs, rfl, hn, HXL.out, HXB.out, HO.out⟩, HB.out⟩, by simp [intOf]; omega⟩
          · have hn0' : decide ((0 : Int) < n) = false := by simp; omega
            go_wp2
            exact ⟨⟨k + 1, by simp, by omega, ⟨g, n, cp, xs, rfl, hn, HXL.out, HXB.out, HO.out⟩, HB.out⟩, by simp [intOf]; omega⟩
    · obtain rfl : k = L.length := by omega
      go_wp2_with fail
      go_ret
      exact ⟨true, rfl, HB.out⟩
end Shw
end Go.Proofs.YthamcklkmchkiaaDoor
namespace Go.Proofs.YthamcklkmchkiaaDoor
open Go.RowKit
namespace Shw
open Gl Glw Sh

def LabP (L : List TN) (i : Nat) : Prop := ∀ n, L[i]? = some n → ((kidsT L i).length : Int) = manyT n
def LabPost (L : List TN) (i : Nat) (w : World) (e : Ending) (w' : World) : Prop := ∃ bo : Bool, e = .returned (.bool bo) ∧ (bo = true → LabP L i) ∧ Below w.heap.size w w'
theorem lab_false {L : List TN} {i : Nat} {w w' : World} (h : Below w.heap.size w w') : LabPost L i w (.returned (.bool false)) w' := ⟨false, rfl, fun h => by simp at h, h⟩
theorem lab_true {L : List TN} {i : Nat} {w w' : World} (hl : LabP L i) (h : Below w.heap.size w w') : LabPost L i w (.returned (.bool true)) w' := ⟨true, rfl, fun _ => hl, h⟩

set_option maxHeartbeats 8000000 in
set_option maxRecDepth 100000 in
theorem labelled03 (b off cap i : Nat) (L : List TN) (hil : i < L.length) (w : World) (hRV : RdT w b off L) (hL : L.length ≤ 1000000) (hS : ∀ n ∈ L, n.nm.size ≤ 9223372036854775807) :
    Calls Tryd.prog 55 #[.slice (some ⟨b, off, none⟩) L.length cap, .int .i64 i] w (LabPost L i w) := by
  obtain ⟨n, hn, b0, b1, b2⟩ := hRV.at_ hil
  have hK := Kids03 b off cap i L hil w hRV hL
  have hi0 : (0 : Int) ≤ i := by omega
  have hi1 : (i : Int) < L.length := by omega
  have hkl : (kidsT L i).length ≤ 1000000 := by
    have e : kidsT L i = kidPos L (manyT n).toNat (i + 1) := by unfold kidsT; rw [hn]
    rw [e]
    have := kidPos_len L (manyT n).toNat (i + 1)
    omega
  have hkp : ∀ p ∈ kidsT L i, p < L.length := fun p hp => by
    unfold kidsT at hp
    rw [hn] at hp
    exact (kidPos_lt L _ _ p hp).2
  have HRV := Lib.hid hRV
  have HN := Lib.hid hn
  have HK := Lib.hid hK
  have HS := Lib.hid hS
  have HKP := Lib.hid hkp
  have hmy := fun n w => many03 n w
  have HMY := Lib.hid hmy
  clear hRV hn hmy hK hS hkp b0 b1 b2
  go_enter Tryd.func55, Tryd.ntmps55
  go_wp2_with fail
  refine HK.out.mono ?_
  rintro e w1 ⟨v, rfl, hints, q1⟩
  dsimp only
  obtain ⟨ps, hps⟩ : ∃ ps, kidsT L i = ps := ⟨_, rfl⟩
  rw [hps] at hints hkl
  have hform : ∃ A cp, v = .slice A ps.length cp := by
    rcases hints.2 with ⟨rfl, h0⟩ | ⟨g, cp, cur, rfl, _⟩
    · exact ⟨none, 0, by rw [h0]⟩
    · exact ⟨_, cp, rfl⟩
  obtain ⟨A, cp, hv⟩ := hform
  rw [hv] at hints ⊢
  have HB1 := Lib.hid q1
  have HI1 := Lib.hid hints
  have HPS := Lib.hid hps
  have HR1 := Lib.hid (HRV.out.since HRV.out.1 q1)
  clear hv hints hps q1 HK
  obtain ⟨n', hn', b0, b1, b2⟩ := HR1.out.at_ hil
  have hnn : n' = n := by
    have := HN.out
    rw [hn'] at this
    exact Option.some.inj this
  subst hnn
  clear hn'
  go_wp2_with fail
  refine (HMY.out n' _).mono ?_
  rintro e w2 ⟨rfl, q2⟩
  dsimp only
  have HB2 := Lib.hid (HB1.out.trans (q2.mono HB1.out.size))
  have HI2 := Lib.hid (HI1.out.below q2)
  clear b0 b1 b2 q2 HI1 HR1 HB1
  by_cases hlen : (ps.length : Int) = manyT n'
  · have q0 : ((ps.length : Int) != manyT n') = false := by rw [bne_eq_false_iff_eq]; exact hlen
    have hlab : LabP L i := fun m hm => by
      rw [HN.out] at hm
      rw [HPS.out, ← Option.some.inj hm]
      exact hlen
    have HLAB := Lib.hid hlab
    clear hlen hlab
    go_wp2_with fail
    go_loopw [6] (fun k wr => ∃ k' : Nat, k = .int .i64 k' ∧ k' ≤ ps.length ∧ Ints wr w.heap.size (.slice A ps.length cp) ps ∧ Below w.heap.size w wr) (fun k _ => ps.length - (intOf k).toNat)
    case atStart => exact ⟨0, rfl, Nat.zero_le _, HI2.out, HB2.out⟩
    case round =>
      obtain ⟨k, rfl, hk, hI, hB⟩ := hrel
      have HI := Lib.hid hI
      have HB := Lib.hid hB
      clear hI hB
      by_cases hlt : k < ps.length
      · obtain ⟨p, hp⟩ : ∃ p, ps[k]? = some p := ⟨_, List.getElem?_eq_getElem hlt⟩
        obtain ⟨g, cp', hA, _, _, hg, hc⟩ := HI.out.at_ hp
        simp only [Value.slice.injEq, true_and] at hA
        obtain ⟨rfl, rfl⟩ := hA
        have hpl : p < L.length := HKP.out p (by rw [HPS.out]; exact List.mem_of_getElem? hp)
        obtain ⟨x, hx, a0, a1, a2⟩ := (HRV.out.since HRV.out.1 HB.out).at_ hpl
        obtain ⟨m, hm, c0, c1, c2⟩ := (HRV.out.since HRV.out.1 HB.out).at_ hil
        have hmm : m = n' := by
          have := HN.out
          rw [hm] at this
          exact Option.some.inj this
        subst hmm
        have hk0 : (0 : Int) ≤ k := by omega
        have hlt' : (k : Int) < ps.length := by omega
        have hp0 : (0 : Int) ≤ p := by omega
        have hp1 : (p : Int) < L.length := by omega
        have hxs := HS.out x (List.mem_of_getElem? hx)
        have hbw : b < wr.heap.size := Nat.lt_of_lt_of_le HRV.out.1 HB.out.size
        clear hp hx hm
        have hbx : Below w.heap.size w (wr.alloc (.cells #[.int .i64 x.k, .string x.nm, .int .i64 x.n] 66)) := HB.out.alloc HB.out.size _
        have HBX := Lib.hid hbx
        have HIX := Lib.hid (HI.out.below ((Below.refl _ _).alloc (Nat.le_refl _) (.cells #[.int .i64 x.k, .string x.nm, .int .i64 x.n] 66)))
        have hiw := fun w => refIsWord x.nm w hxs
        have hit := fun w => refIsTag x.nm w hxs
        have HIW := Lib.hid hiw
        have HIT := Lib.hid hit
        clear hbx hiw hit
        by_cases h6 : m.k = 6
        · have q6 : (m.k == 6) = true := by rw [beq_iff_eq]; exact h6
          have q7 : (m.k == 7) = false := by rw [beq_eq_false_iff_ne, h6]; decide
          clear h6
          by_cases h9 : x.k = 9
          · have q9 : (x.k == 9) = true := by rw [beq_iff_eq]; exact h9
            clear h9
            go_wp2_with fail
            all_goals first | (go_ret; exact lab_false HBX.out) | exact ⟨⟨k + 1, by first | (simp; done) | (simp; omega), by omega, HIX.out, HBX.out⟩, by simp [intOf]; omega⟩
          · have q9 : (x.k == 9) = false := by rw [beq_eq_false_iff_ne]; exact h9
            clear h9
            go_wp2_with fail
            refine (HIW.out _).mono ?_
            rintro e w4 ⟨rfl, rfl⟩
            dsimp only
            by_cases hw : wordL x.nm.data.toList = true
            · by_cases hkz : k = 0
              · have qk : decide (0 < k) = false := by simp; omega
                have HW := Lib.hid hw
                have HKZ := Lib.hid hkz
                go_wp2_with fail
                go_quiet (fail)
                have HBQ := Lib.hid (show Below w.heap.size w ((wr.alloc (.cells #[.int .i64 x.k, .string x.nm, .int .i64 x.n] 66)).drewN nq) from ⟨HBX.out.os, HBX.out.tape, HBX.out.output, HBX.out.size, HBX.out.block⟩)
                have HIQ := Lib.hid (show Ints ((wr.alloc (.cells #[.int .i64 x.k, .string x.nm, .int .i64 x.n] 66)).drewN nq) w.heap.size (.slice (some ⟨g, 0, none⟩) ps.length cp) ps from HIX.out)
                go_wp2_with fail
                all_goals first | (go_ret; exact lab_false HBQ.out) | exact ⟨⟨k + 1, by first | (simp; done) | (simp; omega), by omega, HIQ.out, HBQ.out⟩, by simp [intOf]; omega⟩
              · have qk : decide ((0 : Int) < k) = true := by simp; omega
                obtain ⟨p', hp'⟩ : ∃ p', ps[k - 1]? = some p' := ⟨_, List.getElem?_eq_getElem (by omega)⟩
                obtain ⟨g', cp', hA, _, _, hg', hc'⟩ := HIX.out.at_ hp'
                simp only [Value.slice.injEq, Option.some.injEq, Addr.mk.injEq, and_true, true_and] at hA
                obtain ⟨rfl, rfl⟩ := hA
                have hpl' : p' < L.length := HKP.out p' (by rw [HPS.out]; exact List.mem_of_getElem? hp')
                obtain ⟨x', hx', a0', a1', a2'⟩ := (HRV.out.since HRV.out.1 HBX.out).at_ hpl'
                clear hp' hx'
                have hbc : (wr.alloc (.cells #[.int .i64 x.k, .string x.nm, .int .i64 x.n] 66)).cell? ⟨wr.heap.size, 1, none⟩ = some (.string x.nm) := by rw [World.cell?_alloc_at _ _ _ _ rfl]; rfl
                have hq1 : (1 : Int) ≤ k := by omega
                have hq2 : (0 : Int) ≤ (k : Int) - 1 := by omega
                have hq3 : (k : Int) - 1 < ps.length := by omega
                have hq4 : ((k : Int) - 1).toNat = k - 1 := by omega
                have hq5 : IntKind.i64.wrap ((k : Int) - 1) = (k : Int) - 1 := IntWalk.i64_in _ ⟨by omega, by omega⟩
                have hq6 : (0 : Int) ≤ p' := by omega
                have hq7 : (p' : Int) < L.length := by omega
                have qk2 : decide (0 < k) = true := by simp; omega
                have hk00 : 0 < k := by omega
                go_wp2_with fail
                go_quiet (fail)
                have HBQ := Lib.hid (show Below w.heap.size w ((wr.alloc (.cells #[.int .i64 x.k, .string x.nm, .int .i64 x.n] 66)).drewN nq) from ⟨HBX.out.os, HBX.out.tape, HBX.out.output, HBX.out.size, HBX.out.block⟩)
                have HIQ := Lib.hid (show Ints ((wr.alloc (.cells #[.int .i64 x.k, .string x.nm, .int .i64 x.n] 66)).drewN nq) w.heap.size (.slice (some ⟨g, 0, none⟩) ps.length cp) ps from HIX.out)
                go_wp2_with fail
                all_goals first | (go_ret; exact lab_false HBQ.out) | exact ⟨⟨k + 1, by first | (simp; done) | (simp; omega), by omega, HIQ.out, HBQ.out⟩, by simp [intOf]; omega⟩
            · have hw' : wordL x.nm.data.toList = false := by simpa using hw
              clear hw
              go_wp2_with fail
              all_goals (go_ret; exact lab_false HBX.out)
        · have q6 : (m.k == 6) = false := by rw [beq_eq_false_iff_ne]; exact h6
          clear h6
          by_cases h7 : m.k = 7
          · have q7 : (m.k == 7) = true := by rw [beq_iff_eq]; exact h7
            clear h7
            by_cases h9 : x.k = 9
            · have q9 : (x.k == 9) = true := by rw [beq_iff_eq]; exact h9
              clear h9
              go_wp2_with fail
              all_goals first | (go_ret; exact lab_false HBX.out) | exact ⟨⟨k + 1, by first | (simp; done) | (simp; omega), by omega, HIX.out, HBX.out⟩, by simp [intOf]; omega⟩
            · have q9 : (x.k == 9) = false := by rw [beq_eq_false_iff_ne]; exact h9
              clear h9
              go_wp2_with fail
              refine (HIT.out _).mono ?_
              rintro e w4 ⟨rfl, rfl⟩
              dsimp only
              by_cases hw : tagL x.nm.data.toList = true
              · by_cases hkz : k = 0
                · have qk : decide (0 < k) = false := by simp; omega
                  have HW := Lib.hid hw
                  have HKZ := Lib.hid hkz
                  go_wp2_with fail
                  go_quiet (fail)
                  have HBQ := Lib.hid (show Below w.heap.size w ((wr.alloc (.cells #[.int .i64 x.k, .string x.nm, .int .i64 x.n] 66)).drewN nq) from ⟨HBX.out.os, HBX.out.tape, HBX.out.output, HBX.out.size, HBX.out.block⟩)
                  have HIQ := Lib.hid (show Ints ((wr.alloc (.cells #[.int .i64 x.k, .string x.nm, .int .i64 x.n] 66)).drewN nq) w.heap.size (.slice (some ⟨g, 0, none⟩) ps.length cp) ps from HIX.out)
                  go_wp2_with fail
                  all_goals first | (go_ret; exact lab_false HBQ.out) | exact ⟨⟨k + 1, by first | (simp; done) | (simp; omega), by omega, HIQ.out, HBQ.out⟩, by simp [intOf]; omega⟩
                · have qk : decide ((0 : Int) < k) = true := by simp; omega
                  obtain ⟨p', hp'⟩ : ∃ p', ps[k - 1]? = some p' := ⟨_, List.getElem?_eq_getElem (by omega)⟩
                  obtain ⟨g', cp', hA, _, _, hg', hc'⟩ := HIX.out.at_ hp'
                  simp only [Value.slice.injEq, Option.some.injEq, Addr.mk.injEq, and_true, true_and] at hA
                  obtain ⟨rfl, rfl⟩ := hA
                  have hpl' : p' < L.length := HKP.out p' (by rw [HPS.out]; exact List.mem_of_getElem? hp')
                  obtain ⟨x', hx', a0', a1', a2'⟩ := (HRV.out.since HRV.out.1 HBX.out).at_ hpl'
                  clear hp' hx'
                  have hbc : (wr.alloc (.cells #[.int .i64 x.k, .string x.nm, .int .i64 x.n] 66)).cell? ⟨wr.heap.size, 1, none⟩ = some (.string x.nm) := by rw [World.cell?_alloc_at _ _ _ _ rfl]; rfl
                  have hq1 : (1 : Int) ≤ k := by omega
                  have hq2 : (0 : Int) ≤ (k : Int) - 1 := by omega
                  have hq3 : (k : Int) - 1 < ps.length := by omega
                  have hq4 : ((k : Int) - 1).toNat = k - 1 := by omega
                  have hq5 : IntKind.i64.wrap ((k : Int) - 1) = (k : Int) - 1 := IntWalk.i64_in _ ⟨by omega, by omega⟩
                  have hq6 : (0 : Int) ≤ p' := by omega
                  have hq7 : (p' : Int) < L.length := by omega
                  have qk2 : decide (0 < k) = true := by simp; omega
                  have hk00 : 0 < k := by omega
                  go_wp2_with fail
                  go_quiet (fail)
                  have HBQ := Lib.hid (show Below w.heap.size w ((wr.alloc (.cells #[.int .i64 x.k, .string x.nm, .int .i64 x.n] 66)).drewN nq) from ⟨HBX.out.os, HBX.out.tape, HBX.out.output, HBX.out.size, HBX.out.block⟩)
                  have HIQ := Lib.hid (show Ints ((wr.alloc (.cells #[.int .i64 x.k, .string x.nm, .int .i64 x.n] 66)).drewN nq) w.heap.size (.slice (some ⟨g, 0, none⟩) ps.length cp) ps from HIX.out)
                  go_wp2_with fail
                  all_goals first | (go_ret; exact lab_false HBQ.out) | exact ⟨⟨k + 1, by first | (simp; done) | (simp; omega), by omega, HIQ.out, HBQ.out⟩, by simp [intOf]; omega⟩
              · have hw' : tagL x.nm.data.toList = false := by simpa using hw
                clear hw
                go_wp2_with fail
                all_goals (go_ret; exact lab_false HBX.out)
          · have q7 : (m.k == 7) = false := by rw [beq_eq_false_iff_ne]; exact h7
            clear h7
            by_cases h9 : x.k = 9
            · have q9 : (x.k == 9) = true := by rw [beq_iff_eq]; exact h9
              clear h9
              go_wp2_with fail
              all_goals first | (go_ret; exact lab_false HBX.out) | exact ⟨⟨k + 1, by first | (simp; done) | (simp; omega), by omega, HIX.out, HBX.out⟩, by simp [intOf]; omega⟩
            · have q9 : (x.k == 9) = false := by rw [beq_eq_false_iff_ne]; exact h9
              clear h9
              by_cases he : x.nm.toList.isEmpty = true
              · go_wp2_with fail
                go_quiet (fail)
                have HBQ := Lib.hid (show Below w.heap.size w ((wr.alloc (.cells #[.int .i64 x.k, .string x.nm, .int .i64 x.n] 66)).drewN nq) from ⟨HBX.out.os, HBX.out.tape, HBX.out.output, HBX.out.size, HBX.out.block⟩)
                have HIQ := Lib.hid (show Ints ((wr.alloc (.cells #[.int .i64 x.k, .string x.nm, .int .i64 x.n] 66)).drewN nq) w.heap.size (.slice (some ⟨g, 0, none⟩) ps.length cp) ps from HIX.out)
                go_wp2_with fail
                all_goals first | (go_ret; exact lab_false HBQ.out) | exact ⟨⟨k + 1, by first | (simp; done) | (simp; omega), by omega, HIQ.out, HBQ.out⟩, by simp [intOf]; omega⟩
              · have he' : x.nm.toList.isEmpty = false := by simpa using he
                clear he
                go_wp2_with fail
                go_ret
                exact lab_false HBX.out
      · obtain rfl : k = ps.length := by omega
        go_wp2_with fail
        go_ret
        exact lab_true HLAB.out HB.out
  · have q0 : ((ps.length : Int) != manyT n') = true := by rw [bne_iff_ne]; exact hlen
    clear hlen
    go_wp2_with fail
    go_ret
    exact lab_false HB2.out
end Shw
end Go.Proofs.YthamcklkmchkiaaDoor
namespace Go.Proofs.YthamcklkmchkiaaDoor
open Go.RowKit
namespace Shw
open Gl Glw Sh

theorem numOk_many {n : TN} (h : NumOk n) : 0 ≤ manyT n ∧ manyT n ≤ 50 := by
  unfold manyT
  rcases h with ⟨h, _⟩ | ⟨h, _⟩ | ⟨h, h1, h2⟩ | ⟨h, h1, h2⟩
  · rw [if_neg (by omega), if_neg (by omega), if_neg (by omega)]; omega
  · split
    · omega
    · rw [if_neg (by omega), if_neg (by omega)]; omega
  · rw [if_neg (by omega), if_pos h]; omega
  · rw [if_neg (by omega), if_neg (by omega), if_pos h]; omega

/-- What a right type is, as far as it is wanted. -/
def RightT (L : List TN) : Prop := (∀ n ∈ L, NumOk n) ∧ endT L = L.length ∧ ∀ i, i < L.length → LabP L i
def RightPost (L : List TN) (w : World) (e : Ending) (w' : World) : Prop := ∃ bo : Bool, e = .returned (.bool bo) ∧ (bo = true → RightT L) ∧ Below w.heap.size w w'
theorem right_false {L : List TN} {w w' : World} (h : Below w.heap.size w w') : RightPost L w (.returned (.bool false)) w' := ⟨false, rfl, fun h => by simp at h, h⟩
theorem right_true {L : List TN} {w w' : World} (hl : RightT L) (h : Below w.heap.size w w') : RightPost L w (.returned (.bool true)) w' := ⟨true, rfl, fun _ => hl, h⟩

set_option maxHeartbeats 1000000 in
set_option maxRecDepth 100000 in
theorem Right03_none (A : Option Addr) (cap : Nat) (w : World) : Calls Tryd.prog 34 #[.slice A 0 cap] w fun e w' => e = .returned (.bool false) ∧ Below w.heap.size w w' := by
  go_enter Tryd.func34, Tryd.ntmps34
  go_wp2_with fail
  go_ret
  exact ⟨rfl, Below.refl _ _⟩

set_option maxHeartbeats 4000000 in
set_option maxRecDepth 100000 in
theorem Right03 (b off cap : Nat) (L : List TN) (hne : 0 < L.length) (w : World) (hRV : RdT w b off L) (hL : L.length ≤ 1000000) (hS : ∀ n ∈ L, n.nm.size ≤ 9223372036854775807) :
    Calls Tryd.prog 34 #[.slice (some ⟨b, off, none⟩) L.length cap] w (RightPost L w) := by
  obtain ⟨n, hn, b0, b1, b2⟩ := hRV.at_ hne
  simp only [Nat.zero_mul, Nat.add_zero] at b0 b1 b2
  have hE := fun w hR => End03 b off cap 0 L hne w hR hL
  rw [List.drop_zero, Nat.zero_add] at hE
  have hnum := fun n w => numbered03 n w
  have hlab := fun i w hi hR => labelled03 b off cap i L hi w hR hL hS
  have hsh := fun w hR hN => shallow03 b off cap L w hR hL hN
  have HRV := Lib.hid hRV
  have HE := Lib.hid hE
  have HNUM := Lib.hid hnum
  have HLB := Lib.hid hlab
  have HSH := Lib.hid hsh
  have hne' : (0 : Int) < L.length := by omega
  have ql : ((L.length : Int) == 0) = false := by rw [beq_eq_false_iff_ne]; omega
  clear hRV hE hnum hlab hsh hn hS
  by_cases hbig : 10000 < L.length
  · have qb : decide ((10000 : Int) < L.length) = true := by simp; omega
    clear hbig
    go_enter Tryd.func34, Tryd.ntmps34
    go_wp2_with fail
    go_ret
    exact right_false (Below.refl _ _)
  · have qb : decide ((10000 : Int) < L.length) = false := by simp; omega
    clear hbig
    by_cases he : n.nm.toList.isEmpty = true
    · by_cases h9 : n.k = 9
      · have q9 : (n.k == 9) = true := by rw [beq_iff_eq]; exact h9
        clear h9
        go_enter Tryd.func34, Tryd.ntmps34
        go_wp2_with fail
        go_ret
        exact right_false (Below.refl _ _)
      · have q9 : (n.k == 9) = false := by rw [beq_eq_false_iff_ne]; exact h9
        clear h9
        go_enter Tryd.func34, Tryd.ntmps34
        go_wp2_with fail
        clear b0 b1 b2
        go_loopw [3] (fun i wr => ∃ k : Nat, i = .int .i64 k ∧ k ≤ L.length ∧ (∀ j n, j < k → L[j]? = some n → NumOk n) ∧ Below w.heap.size w wr) (fun i _ => L.length - (intOf i).toNat)
        case atStart => exact ⟨0, rfl, Nat.zero_le _, fun j n h => by omega, Below.refl _ _⟩
        case round =>
          obtain ⟨k, rfl, hk, hall, hB⟩ := hrel
          have HALL := Lib.hid hall
          have HB := Lib.hid hB
          clear hall hB
          by_cases hlt : k < L.length
          · obtain ⟨x, hx, a0, a1, a2⟩ := (HRV.out.since HRV.out.1 HB.out).at_ hlt
            have hk0 : (0 : Int) ≤ k := by omega
            have hlt' : (k : Int) < L.length := by omega
            have HX := Lib.hid hx
            clear hx
            go_wp2_with fail
            refine (HNUM.out x _).mono ?_
            rintro e w1 ⟨bo, rfl, hbo, q1⟩
            dsimp only
            have HB1 := Lib.hid (HB.out.trans (q1.mono HB.out.size))
            have HBO := Lib.hid hbo
            clear q1 hbo
            cases bo with
            | false =>
              go_wp2_with fail
              go_ret
              exact right_false HB1.out
            | true =>
              go_wp2_with fail
              refine ⟨⟨k + 1, by simp, by omega, fun j y hj hy => ?_, HB1.out⟩, by simp [intOf]; omega⟩
              by_cases e : j = k
              · subst e
                rw [HX.out] at hy
                obtain rfl := Option.some.inj hy
                exact HBO.out rfl
              · exact HALL.out j y (by omega) hy
          · obtain rfl : k = L.length := by omega
            have hall : ∀ n ∈ L, NumOk n := fun n hn => by
              obtain ⟨i, hi, rfl⟩ := List.getElem_of_mem hn
              exact HALL.out i _ hi (List.getElem?_eq_getElem hi)
            have HA := Lib.hid hall
            clear hall
            go_wp2_with fail
            refine (HE.out _ (HRV.out.since HRV.out.1 HB.out)).mono ?_
            rintro e w1 ⟨rfl, q1⟩
            dsimp only
            have HB1 := Lib.hid (HB.out.trans (q1.mono HB.out.size))
            clear q1
            by_cases hend : endT L = L.length
            · have qe : ((endT L : Int) != L.length) = false := by rw [bne_eq_false_iff_eq]; omega
              have HEND := Lib.hid hend
              clear hend
              go_wp2_with fail
              refine (HSH.out _ (HRV.out.since HRV.out.1 HB1.out) (fun n hn => numOk_many (HA.out n hn))).mono ?_
              rintro e w2 ⟨bo, rfl, q2⟩
              dsimp only
              have HB2 := Lib.hid (HB1.out.trans (q2.mono HB1.out.size))
              clear q2
              cases bo with
              | false =>
                go_wp2_with fail
                go_ret
                exact right_false HB2.out
              | true =>
                go_wp2_with fail
                go_loopw [4] (fun i wr => ∃ k : Nat, i = .int .i64 k ∧ k ≤ L.length ∧ (∀ j, j < k → LabP L j) ∧ Below w.heap.size w wr) (fun i _ => L.length - (intOf i).toNat)
                case atStart => exact ⟨0, rfl, Nat.zero_le _, fun j h => by omega, HB2.out⟩
                case round =>
                  obtain ⟨k, rfl, hk, hall, hB⟩ := hrel
                  have HALB := Lib.hid hall
                  have HBr := Lib.hid hB
                  clear hall hB
                  by_cases hlt : k < L.length
                  · have hk0 : (0 : Int) ≤ k := by omega
                    have hlt' : (k : Int) < L.length := by omega
                    go_wp2_with fail
                    refine (HLB.out k _ hlt (HRV.out.since HRV.out.1 HBr.out)).mono ?_
                    rintro e w3 ⟨bo, rfl, hbo, q3⟩
                    dsimp only
                    have HB3 := Lib.hid (HBr.out.trans (q3.mono HBr.out.size))
                    have HBO := Lib.hid hbo
                    clear q3 hbo
                    cases bo with
                    | false =>
                      go_wp2_with fail
                      go_ret
                      exact right_false HB3.out
                    | true =>
                      go_wp2_with fail
                      refine ⟨⟨k + 1, by simp, by omega, fun j hj => ?_, HB3.out⟩, by simp [intOf]; omega⟩
                      by_cases e : j = k
                      · subst e; exact HBO.out rfl
                      · exact HALB.out j (by omega)
                  · obtain rfl : k = L.length := by omega
                    go_wp2_with fail
                    go_ret
                    exact right_true ⟨HA.out, HEND.out, HALB.out⟩ HBr.out
            · have qe : ((endT L : Int) != L.length) = true := by rw [bne_iff_ne]; omega
              clear hend
              go_wp2_with fail
              go_ret
              exact right_false HB1.out
    · have he' : n.nm.toList.isEmpty = false := by simpa using he
      clear he
      go_enter Tryd.func34, Tryd.ntmps34
      go_wp2_with fail
      go_ret
      exact right_false (Below.refl _ _)
end Shw
end Go.Proofs.YthamcklkmchkiaaDoor
namespace Go.Proofs.YthamcklkmchkiaaDoor
open Go.RowKit
namespace Shw
open Gl Glw Sh

set_option maxHeartbeats 1000000 in
set_option maxRecDepth 100000 in
theorem Same03_len (A B : Option Addr) (m n c d : Nat) (hmn : m ≠ n) (w : World) : Calls Tryd.prog 33 #[.slice A m c, .slice B n d] w fun e w' => e = .returned (.bool false) ∧ Below w.heap.size w w' := by
  have q : ((m : Int) != n) = true := by rw [bne_iff_ne]; omega
  clear hmn
  go_enter Tryd.func33, Tryd.ntmps33
  go_wp2_with fail
  go_ret
  exact ⟨rfl, Below.refl _ _⟩
set_option maxHeartbeats 1000000 in
set_option maxRecDepth 100000 in
theorem Same03_none (A B : Option Addr) (c d : Nat) (w : World) : Calls Tryd.prog 33 #[.slice A 0 c, .slice B 0 d] w fun e w' => e = .returned (.bool true) ∧ Below w.heap.size w w' := by
  go_enter Tryd.func33, Tryd.ntmps33
  go_wp2_with fail
  refine wp_loop_rounds 1 ?_
  rw [rounds_succ]
  go_wp2_with fail
  go_ret
  exact ⟨rfl, Below.refl _ _⟩

set_option maxHeartbeats 4000000 in
set_option maxRecDepth 100000 in
theorem Same03 (b off cap b' off' cap' : Nat) (L M : List TN) (hlen : L.length = M.length) (w : World) (hR : RdT w b off L) (hR' : RdT w b' off' M) (hL : L.length ≤ 1000000) :
    Calls Tryd.prog 33 #[.slice (some ⟨b, off, none⟩) L.length cap, .slice (some ⟨b', off', none⟩) M.length cap'] w fun e w' => ∃ bo : Bool, e = .returned (.bool bo) ∧ Below w.heap.size w w' := by
  rw [← hlen]
  have HR := Lib.hid hR
  have HR' := Lib.hid hR'
  have HLN := Lib.hid hlen
  have q : ((L.length : Int) != L.length) = false := by simp
  clear hR hR' hlen
  go_enter Tryd.func33, Tryd.ntmps33
  go_wp2_with fail
  go_loopw [5] (fun i wr => ∃ k : Nat, i = .int .i64 k ∧ k ≤ L.length ∧ Below w.heap.size w wr) (fun i _ => L.length - (intOf i).toNat)
  case atStart => exact ⟨0, rfl, Nat.zero_le _, Below.refl _ _⟩
  case round =>
    obtain ⟨k, rfl, hk, hB⟩ := hrel
    have HB := Lib.hid hB
    clear hB
    by_cases hlt : k < L.length
    · obtain ⟨x, _, a0, a1, a2⟩ := (HR.out.since HR.out.1 HB.out).at_ hlt
      obtain ⟨y, _, c0, c1, c2⟩ := (HR'.out.since HR'.out.1 HB.out).at_ (k := k) (by have := HLN.out; omega)
      have hsz : w.heap.size ≤ wr.heap.size := HB.out.size
      have hk0 : (0 : Int) ≤ k := by omega
      have hlt' : (k : Int) < L.length := by omega
      have hb1 : b < wr.heap.size := Nat.lt_of_lt_of_le HR.out.1 HB.out.size
      have hb2 : b' < wr.heap.size := Nat.lt_of_lt_of_le HR'.out.1 HB.out.size
      go_wp2_with fail
      obtain ⟨u, hu⟩ : ∃ u, (x.k == 0) = u := ⟨_, rfl⟩
      obtain ⟨v, hv⟩ : ∃ v, (y.k == 0) = v := ⟨_, rfl⟩
      cases u <;> cases v
      all_goals (go_region)
      all_goals (go_wp2_with fail)
      all_goals first | (go_ret; refine ⟨false, rfl, ?_⟩) | refine ⟨⟨k + 1, by simp, by omega, ?_⟩, by simp [intOf]; omega⟩
      all_goals repeat' (first | exact HB.out | refine Below.drew ?_ | refine Below.alloc ?_ ?_ _ | refine Below.setCell ?_ ?_ _)
      all_goals first | omega | (simp; done) | (simp; omega)
    · obtain rfl : k = L.length := by omega
      go_wp2_with fail
      go_ret
      exact ⟨true, rfl, HB.out⟩
end Shw
end Go.Proofs.YthamcklkmchkiaaDoor
