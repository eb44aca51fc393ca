/-
  DERIVED. LAYER 2 (lex): the sign at a place, by the reference, walked.
-/
import Derived.Test.YtelejpajnemmfaaDoorLxBetween
import Derived.Deep.QuietTactic
import Derived.BigQuiet
import Derived.IntWalk
namespace Go.Proofs.YtelejpajnemmfaaDoor
open Go.RowKit
namespace Lxw
open Gl Lx Glw

/-- The sign as a text; none: no byte. -/
def signB (l : List UInt8) : ByteArray := ⟨((signOf l).getD []).toArray⟩

theorem prefix_take (x l : List UInt8) : x.isPrefixOf l = (decide (x.length ≤ l.length) && (l.take x.length == x)) := by
  rw [Bool.eq_iff_iff, List.isPrefixOf_iff_prefix, List.prefix_iff_eq_take, Bool.and_eq_true, decide_eq_true_iff, beq_iff_eq]
  constructor
  · intro h
    refine ⟨?_, h.symm⟩
    have := congrArg List.length h
    rw [List.length_take] at this
    omega
  · rintro ⟨_, h⟩; exact h.symm

theorem piece_eq (s : ByteArray) (pos : Nat) (x : List UInt8) (h : pos + x.length ≤ s.size) :
    ((s.extract pos (pos + x.length)).toList == (⟨x.toArray⟩ : ByteArray).toList) = x.isPrefixOf (s.data.toList.drop pos) := by
  rw [prefix_take, toList_data, toList_data, ext_data]
  have : x.length ≤ (s.data.toList.drop pos).length := by rw [List.length_drop, size_data]; omega
  rw [decide_eq_true this, Bool.true_and, show pos + x.length - pos = x.length from by omega]

theorem find_take_succ (l : List (List UInt8)) (k : Nat) (h : k < l.length) (p : List UInt8 → Bool) (hn : (l.take k).find? p = none) : (l.take (k + 1)).find? p = if p l[k] = true then some l[k] else none := by
  rw [List.take_succ_eq_append_getElem h, List.find?_append, hn]
  simp only [Option.none_or, List.find?_cons, List.find?_nil]
  cases p l[k] <;> rfl
theorem find_take_some {l : List (List UInt8)} {k : Nat} {p : List UInt8 → Bool} {x : List UInt8} (h : (l.take k).find? p = some x) : l.find? p = some x := by
  have : l = l.take k ++ l.drop k := (List.take_append_drop k l).symm
  rw [this, List.find?_append, h]
  rfl

set_option maxHeartbeats 2000000 in
set_option maxRecDepth 1000000 in
theorem refSign (s : ByteArray) (pos : Nat) (w : World) (hs : s.size ≤ 35184372088832) (h0 : pos ≤ s.size) :
    Calls Tryd.prog 46 #[.string s, .int .i64 pos] w fun e w' => e = .returned (.string (signB (s.data.toList.drop pos))) ∧ Below w.heap.size w w' := by
  have hb := (Below.refl w.heap.size w).alloc (Nat.le_refl _) (.cells (strCells signsL) 9)
  have hcell := fun i h => str_cell w signsL i 9 h
  obtain ⟨W1, hW1⟩ : ∃ W1, w.alloc (.cells (strCells signsL) 9) = W1 := ⟨_, rfl⟩
  rw [hW1] at hb hcell
  go_enter Tryd.func46, Tryd.ntmps46
  go_wp2_with (go_at_call 73; refine (refSigns _).mono ?_; rw [hW1]; rintro e w1 ⟨rfl, rfl⟩)
  go_loopw [6] (fun i wr => ∃ k : Nat, i = .int .i64 k ∧ k ≤ 24 ∧ (signsL.take k).find? (fun x => x.isPrefixOf (s.data.toList.drop pos)) = none ∧ Below w.heap.size w wr ∧ ∀ j (h : j < signsL.length), wr.cell? ⟨w.heap.size, j, none⟩ = some (.string ⟨(signsL[j]).toArray⟩)) (fun i _ => 24 - (intOf i).toNat)
  case atStart => exact ⟨0, rfl, by omega, rfl, hb, hcell⟩
  case round =>
    clear hb hcell hW1
    obtain ⟨k, rfl, hk, hno, hb, hcell⟩ := hrel
    have Hn := Lib.hid hno
    have Hcell := Lib.hid hcell
    clear hno hcell
    by_cases hk' : k < 24
    · have hk2 : k < signsL.length := hk'
      have hc := Hcell.out k hk2
      have hlen := signs_pos _ (List.getElem_mem hk2)
      have Hf := Lib.hid (find_take_succ signsL k hk2 _ Hn.out)
      have Hp := Lib.hid (piece_eq s pos (signsL[k]'hk2))
      have Hq := Lib.hid (prefix_take (signsL[k]'hk2) (s.data.toList.drop pos))
      obtain ⟨x, hx⟩ : ∃ x : List UInt8, (signsL[k]'hk2) = x := ⟨_, rfl⟩
      have HX := Lib.hid hx
      rw [hx] at hc hlen Hf Hp Hq
      obtain ⟨y, hy⟩ : ∃ y : ByteArray, ⟨x.toArray⟩ = y := ⟨_, rfl⟩
      have hys : y.size = x.length := by rw [← hy]; simp [ByteArray.size]
      rw [hy] at hc Hp
      have HY := Lib.hid hy
      clear hy hx
      have d0 : (k : Int) < 24 := by omega
      have d1 : IntKind.i64.wrap ((pos : Int) + (y.size : Int)) = (pos : Int) + (y.size : Int) := IntWalk.i64_in _ (by omega)
      by_cases hr : pos + y.size ≤ s.size
      · have d2 : (pos : Int) + (y.size : Int) ≤ s.size := by omega
        have d3 : (pos : Int) ≤ (pos : Int) + (y.size : Int) := by omega
        have d4 : (0 : Int) ≤ pos := by omega
        have d5 : ((pos : Int) + (y.size : Int)).toNat = pos + y.size := by omega
        have hpq := Hp.out (by omega)
        rw [← hys] at hpq
        obtain ⟨q, hQ⟩ : ∃ q, x.isPrefixOf (s.data.toList.drop pos) = q := ⟨_, rfl⟩
        rw [hQ] at hpq
        have HQ := Lib.hid hQ
        clear hQ hlen hys
        cases q with
        | true =>
          go_wp2
          go_quiet (fail)
          go_wp2
          go_ret
          refine ⟨?_, below_drewN' hb _⟩
          have h1 := Hf.out
          simp only [HQ.out] at h1
          have h2 : signOf (s.data.toList.drop pos) = some x := find_take_some h1
          have h3 : signB (s.data.toList.drop pos) = y := by unfold signB; rw [h2]; exact HY.out
          rw [h3]
          rfl
        | false =>
          have hn2 : (signsL.take (k + 1)).find? (fun x => x.isPrefixOf (s.data.toList.drop pos)) = none := by
            rw [Hf.out]; simp only [HQ.out]; rfl
          have HN2 := Lib.hid hn2
          clear hn2
          go_wp2
          go_quiet (fail)
          go_wp2
          go_roundw
          case rel => exact ⟨k + 1, rfl, hk', HN2.out, below_drewN' hb _, fun j h => (Hcell.out j h)⟩
          case measure => simp [intOf]; omega
      · have d2 : ¬ (pos : Int) + (y.size : Int) ≤ s.size := by omega
        have d3 : decide ((pos : Int) + (y.size : Int) ≤ s.size) = false := by simpa using d2
        have hn2 : (signsL.take (k + 1)).find? (fun x => x.isPrefixOf (s.data.toList.drop pos)) = none := by
          have h1 := Hq.out
          rw [decide_eq_false (by rw [List.length_drop, size_data]; omega), Bool.false_and] at h1
          rw [Hf.out]; simp only [h1]; rfl
        have HN2 := Lib.hid hn2
        clear hn2 hys hlen d2
        go_wp2
        go_quiet (fail)
        go_wp2
        go_roundw
        case rel => exact ⟨k + 1, rfl, hk', HN2.out, below_drewN' hb _, fun j h => (Hcell.out j h)⟩
        case measure => simp [intOf]; omega
    · obtain rfl : k = 24 := by omega
      have hN : (signsL.find? fun x => x.isPrefixOf (s.data.toList.drop pos)) = none := Hn.out
      have hS : signB (s.data.toList.drop pos) = ⟨#[]⟩ := by unfold signB signOf; rw [hN]; rfl
      have HS := Lib.hid hS
      clear hN hS
      go_wp2
      go_ret
      exact ⟨by rw [HS.out]; rfl, hb⟩
end Lxw
end Go.Proofs.YtelejpajnemmfaaDoor
