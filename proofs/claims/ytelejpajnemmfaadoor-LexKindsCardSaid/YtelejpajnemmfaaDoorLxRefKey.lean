/-
  DERIVED. LAYER 2 (lex): the reference's keys and signs, and whether a word is a key, walked.
-/
import Derived.Test.YtelejpajnemmfaaDoorLxKey
import Derived.Deep.WholeRow
namespace Go.Proofs.YtelejpajnemmfaaDoor
open Go.RowKit
namespace Lxw
open Gl Lx Glw

def strCells (l : List (List UInt8)) : Array Value := (l.map fun x => Value.string ⟨x.toArray⟩).toArray

set_option maxHeartbeats 1000000 in
set_option maxRecDepth 1000000 in
theorem refKeys (w : World) :
    Calls Tryd.prog 27 #[] w fun e w' => e = .returned (.slice (some ⟨w.heap.size, 0, none⟩) 18 18) ∧ w' = w.alloc (.cells (strCells keysL) 9) := by
  go_enter Tryd.func27, Tryd.ntmps27
  go_wp2
  go_ret
  exact ⟨rfl, rfl⟩

set_option maxHeartbeats 1000000 in
set_option maxRecDepth 1000000 in
theorem refSigns (w : World) :
    Calls Tryd.prog 73 #[] w fun e w' => e = .returned (.slice (some ⟨w.heap.size, 0, none⟩) 24 24) ∧ w' = w.alloc (.cells (strCells signsL) 9) := by
  go_enter Tryd.func73, Tryd.ntmps73
  go_wp2
  go_ret
  exact ⟨rfl, rfl⟩

theorem strCells_one (l : List (List UInt8)) : (strCells l).all (·.oneCell') = true := by
  unfold strCells
  simp [Value.oneCell']

theorem wpList_build_to {P : Program} {ops : Array Oper} {rest : List Oper} {o : Oper} {a : Act} {w : World} {Q : Exit → Act → World → Prop} (hg : o.guard = none) (t : TypeId) (parts : Array (Nat × Operand)) (ho : o.op = .build t parts)
    (cs : Array Value) (hf : P.built t (parts.map fun (i, x) => (i, a.eval x)).toList = some cs) (h : wpList P ops Q rest (a.put o.dst (.agg cs)) w) : wpList P ops Q (o :: rest) a w := by
  refine wpList_build hg t parts ho (by rw [hf]; rfl) ?_
  rw [hf]
  exact h

theorem signs_cells : (#[.string ⟨#[45, 62]⟩, .string ⟨#[61, 61]⟩, .string ⟨#[38, 38]⟩, .string ⟨#[124, 124]⟩, .string ⟨#[43, 43]⟩, .string ⟨#[40]⟩, .string ⟨#[41]⟩, .string ⟨#[123]⟩, .string ⟨#[125]⟩, .string ⟨#[91]⟩, .string ⟨#[93]⟩, .string ⟨#[44]⟩, .string ⟨#[59]⟩, .string ⟨#[58]⟩, .string ⟨#[46]⟩, .string ⟨#[61]⟩, .string ⟨#[124]⟩, .string ⟨#[43]⟩, .string ⟨#[45]⟩, .string ⟨#[42]⟩, .string ⟨#[47]⟩, .string ⟨#[60]⟩, .string ⟨#[63]⟩, .string ⟨#[33]⟩] : Array Value) = strCells signsL := rfl
theorem signs_size : (strCells signsL).size = 24 := by rw [← signs_cells]; rfl

set_option maxHeartbeats 1000000 in
set_option maxRecDepth 1000000 in
theorem signs (w : World) :
    Calls Tryd.prog 40 #[] w fun e w' => e = .returned (.agg (strCells signsL)) ∧ Below w.heap.size w w' := by
  have hsz := signs_size
  have h1 := strCells_one signsL
  have hinfo : (Tryd.prog.info? 54).map (·.size) = some (strCells signsL).size := by rw [hsz]; kernel_rfl
  obtain ⟨c, hc⟩ : ∃ c, strCells signsL = c := ⟨_, rfl⟩
  rw [hc] at hsz h1 hinfo ⊢
  have HC := Lib.hid hc
  clear hc
  go_enter Tryd.func40, Tryd.ntmps40
  iterate 11 (first | go_values | go_skip | go_guarded | go_step | go_upon | go_back)
  refine wpList_build_to rfl 54 _ rfl c (by rw [← HC.out]; kernel_rfl) ?_
  refine wpList_store_row rfl 54 (.tmp 0) (.tmp 1) rfl w.heap.size c rfl rfl 54 _ (heap_alloc_new w _) hinfo (by rw [hsz]; rfl) h1 ?_
  rw [World.setRow_alloc_new]
  repeat (first | go_values | go_skip | go_guarded | go_step | go_upon | go_back)
  refine bodyPost_ret (v := .agg c) ?_ rfl ⟨rfl, (Below.refl _ _).alloc (Nat.le_refl _) _⟩
  exact results_cell_row rfl _ _ w.heap.size 54 c (0, 0) _ rfl (heap_alloc_last w _) Tryd.underlying54 rfl hinfo

theorem str_cell (w : World) (l : List (List UInt8)) (i : Nat) (t : TypeId) (h : i < l.length) : (w.alloc (.cells (strCells l) t)).cell? ⟨w.heap.size, i, none⟩ = some (.string ⟨(l[i]).toArray⟩) := by
  rw [World.cell?_alloc_at _ _ _ _ rfl]
  simp [strCells, h]

theorem beq_bytes (a : List UInt8) (s : ByteArray) : ((⟨a.toArray⟩ : ByteArray).toList == s.toList) = (a == s.data.toList) := by
  rw [toList_data, toList_data]

theorem take_succ_contains (l : List (List UInt8)) (k : Nat) (h : k < l.length) (x : List UInt8) : (l.take (k + 1)).contains x = ((l.take k).contains x || l[k] == x) := by
  rw [List.take_succ_eq_append_getElem h, List.contains_append]
  simp only [List.contains_cons, List.contains_nil, Bool.or_false]
  congr 1
  rw [Bool.eq_iff_iff, beq_iff_eq, beq_iff_eq]; exact eq_comm
theorem contains_take {l : List (List UInt8)} {k : Nat} {x : List UInt8} (h : (l.take k).contains x = true) : l.contains x = true := by
  rw [List.contains_iff_mem] at h ⊢
  exact List.mem_of_mem_take h

set_option maxHeartbeats 1000000 in
set_option maxRecDepth 1000000 in
theorem refIsKey (s : ByteArray) (w : World) :
    Calls Tryd.prog 15 #[.string s] w fun e w' => e = .returned (.bool (keysL.contains s.data.toList)) ∧ Below w.heap.size w w' := by
  have hb := (Below.refl w.heap.size w).alloc (Nat.le_refl _) (.cells (strCells keysL) 9)
  have hcell := fun i h => str_cell w keysL i 9 h
  obtain ⟨W1, hW1⟩ : ∃ W1, w.alloc (.cells (strCells keysL) 9) = W1 := ⟨_, rfl⟩
  rw [hW1] at hb hcell
  go_enter Tryd.func15, Tryd.ntmps15
  go_wp2_with (go_at_call 27; refine (refKeys _).mono ?_; rw [hW1]; rintro e w1 ⟨rfl, rfl⟩)
  go_loopw [4] (fun i wr => ∃ k : Nat, wr = w1 ∧ i = .int .i64 k ∧ k ≤ 18 ∧ (keysL.take k).contains s.data.toList = false) (fun i _ => 18 - (intOf i).toNat)
  case atStart => exact ⟨0, rfl, rfl, by omega, rfl⟩
  case round =>
    obtain ⟨k, rfl, rfl, hk, hno⟩ := hrel
    have Hn := Lib.hid hno
    clear hno
    by_cases hk' : k < 18
    · have hc := hcell k hk'
      have hq := beq_bytes (keysL[k]'hk') s
      have ht := take_succ_contains keysL k hk' s.data.toList
      obtain ⟨x, hx⟩ : ∃ x : ByteArray, ⟨(keysL[k]'hk').toArray⟩ = x := ⟨_, rfl⟩
      rw [hx] at hc hq
      obtain ⟨q, hQ⟩ : ∃ q, (keysL[k]'hk' == s.data.toList) = q := ⟨_, rfl⟩
      rw [hQ] at hq ht
      have HT := Lib.hid ht
      clear hQ hx hcell ht hW1
      have d1 : (k : Int) < 18 := by omega
      have hk2 : k + 1 ≤ 18 := hk'
      cases q with
      | true =>
        go_wp2
        go_ret
        refine ⟨ret_bool ?_, hb⟩
        have := HT.out
        rw [Bool.or_true] at this
        exact (contains_take this).symm
      | false =>
        go_wp2
        go_roundw
        case rel => exact ⟨k + 1, trivial, rfl, hk2, by rw [HT.out, Hn.out]; rfl⟩
        case measure => simp [intOf]; omega
    · obtain rfl : k = 18 := by omega
      have hAll : keysL.contains s.data.toList = false := Hn.out
      clear hcell hW1
      go_wp2
      go_ret
      exact ⟨ret_bool hAll.symm, hb⟩
end Lxw
end Go.Proofs.YtelejpajnemmfaaDoor
