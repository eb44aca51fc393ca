/-
  DERIVED. LAYER 2 (lex): the next token, walked.
-/
import Derived.Test.YtelejpajnemmfaaDoorLxKind
import Derived.RegionTactic
import Derived.BigRegion

namespace Go.Proofs.YtelejpajnemmfaaDoor
open Go.RowKit
namespace Lxw
open Gl Lx Glw

set_option maxHeartbeats 1000000 in
set_option maxRecDepth 100000 in
theorem next1 (r x : ByteArray) (b : Nat) (w : World) (hc : w.cell? ⟨b, 0, none⟩ = some (.string r)) :
    Calls Tryd.prog 42 #[.string x, .pointer (some ⟨b, 0, none⟩)] w fun e w' => e = .returned (.bool (x.data.toList.isPrefixOf r.data.toList)) ∧ w' = w := by
  have H := Tryd.strings_HasPrefix r x
  generalize hq : Lib.hasPrefix r.data.toList x.data.toList = q at H
  rw [show x.data.toList.isPrefixOf r.data.toList = q from hq]
  go_enter Tryd.func42, Tryd.ntmps42
  go_wp2_with fail
  refine (H _).mono ?_
  rintro e w1 ⟨rfl, rfl⟩
  dsimp only
  go_wp2
  go_ret
  exact ⟨rfl, rfl⟩

/-- A token in a block of its own. -/
def Tk (w : World) (g : Nat) (k : Int) (x : ByteArray) (lo hi : Int) : Prop := w.heap[g]? = some (.cells #[.int .i64 k, .string x, .int .i64 lo, .int .i64 hi] 31 (0, 0))
theorem heap_lt {w : World} {g : Nat} {o : Obj} (h : w.heap[g]? = some o) : g < w.heap.size := by
  rcases Nat.lt_or_ge g w.heap.size with h' | h'
  · exact h'
  · rw [Array.getElem?_eq_none h'] at h; cases h
theorem Tk.lt {w : World} {g : Nat} {k lo hi : Int} {x : ByteArray} (h : Tk w g k x lo hi) : g < w.heap.size := heap_lt h
theorem Tk.cell0 {w : World} {g : Nat} {k lo hi : Int} {x : ByteArray} (h : Tk w g k x lo hi) : w.cell? ⟨g, 0, none⟩ = some (.int .i64 k) := by rw [Lib.cell_of_heap h]; rfl
theorem Tk.cell1 {w : World} {g : Nat} {k lo hi : Int} {x : ByteArray} (h : Tk w g k x lo hi) : w.cell? ⟨g, 1, none⟩ = some (.string x) := by rw [Lib.cell_of_heap h]; rfl
theorem Tk.cell2 {w : World} {g : Nat} {k lo hi : Int} {x : ByteArray} (h : Tk w g k x lo hi) : w.cell? ⟨g, 2, none⟩ = some (.int .i64 lo) := by rw [Lib.cell_of_heap h]; rfl
theorem Tk.cell3 {w : World} {g : Nat} {k lo hi : Int} {x : ByteArray} (h : Tk w g k x lo hi) : w.cell? ⟨g, 3, none⟩ = some (.int .i64 hi) := by rw [Lib.cell_of_heap h]; rfl
theorem Tk.frozen {w : World} {g : Nat} {k lo hi : Int} {x : ByteArray} (h : Tk w g k x lo hi) (i : Nat) : w.frozen? ⟨g, i, none⟩ = false := Lib.frozen_of_heap h i
theorem Tk.below {w w' : World} {g : Nat} {k lo hi : Int} {x : ByteArray} (h : Tk w g k x lo hi) (hb : Below w.heap.size w w') : Tk w' g k x lo hi := (hb.block g h.lt).trans h
theorem Tk.set0 {w : World} {g : Nat} {k lo hi : Int} {x : ByteArray} (h : Tk w g k x lo hi) (k' : Int) : Tk (w.setCell ⟨g, 0, none⟩ (.int .i64 k')) g k' x lo hi := by
  unfold Tk at h ⊢
  simp [World.setCell, Array.getElem?_modify, h]
theorem Tk.set1 {w : World} {g : Nat} {k lo hi : Int} {x : ByteArray} (h : Tk w g k x lo hi) (x' : ByteArray) : Tk (w.setCell ⟨g, 1, none⟩ (.string x')) g k x' lo hi := by
  unfold Tk at h ⊢
  simp [World.setCell, Array.getElem?_modify, h]
theorem Tk.set2 {w : World} {g : Nat} {k lo hi : Int} {x : ByteArray} (h : Tk w g k x lo hi) (lo' : Int) : Tk (w.setCell ⟨g, 2, none⟩ (.int .i64 lo')) g k x lo' hi := by
  unfold Tk at h ⊢
  simp [World.setCell, Array.getElem?_modify, h]
theorem Tk.set3 {w : World} {g : Nat} {k lo hi : Int} {x : ByteArray} (h : Tk w g k x lo hi) (hi' : Int) : Tk (w.setCell ⟨g, 3, none⟩ (.int .i64 hi')) g k x lo hi' := by
  unfold Tk at h ⊢
  simp [World.setCell, Array.getElem?_modify, h]
theorem Tk.far {w : World} {g g' : Nat} {k lo hi : Int} {x : ByteArray} (h : Tk w g k x lo hi) (hne : g ≠ g') (i : Nat) (v : Value) : Tk (w.setCell ⟨g', i, none⟩ v) g k x lo hi :=
  (Below.heap_setCell w ⟨g', i, none⟩ v g hne).trans h

/-- A token, stored whole. -/
def put4 (w : World) (g : Nat) (k : Int) (x : ByteArray) (lo hi : Int) : World := (((w.setCell ⟨g, 0, none⟩ (.int .i64 k)).setCell ⟨g, 1, none⟩ (.string x)).setCell ⟨g, 2, none⟩ (.int .i64 lo)).setCell ⟨g, 3, none⟩ (.int .i64 hi)
theorem Tk.put4 {w : World} {g : Nat} {k lo hi : Int} {x : ByteArray} (h : Tk w g k x lo hi) (k' : Int) (x' : ByteArray) (lo' hi' : Int) : Tk (put4 w g k' x' lo' hi') g k' x' lo' hi' :=
  (((h.set0 k').set1 x').set2 lo').set3 hi'
theorem below_put4 {B : Nat} {a w : World} (h : Below B a w) (g : Nat) (hg : B ≤ g) (k : Int) (x : ByteArray) (lo hi : Int) : Below B a (put4 w g k x lo hi) :=
  (((h.setCell hg _).setCell hg _).setCell hg _).setCell hg _

theorem Unq (s : ByteArray) (w : World) (hT : Tabs w) (hs : s.size ≤ 17592186044416) (x : List UInt8) (n e : Int) (h : unquoteL s.data.toList = (x, n, e)) :
    Calls Tryd.prog 37 #[.string s] w fun en w' => en = .returned (.tuple #[.string ⟨x.toArray⟩, .int .i64 n, .int .i64 e]) ∧ Below w.heap.size w w' := by
  have := Unquote s w hT hs
  rw [h] at this
  exact this

/-- What 'next' hands back: a token, and whether it is one. -/
def NextIs (l : List UInt8) (pos : Nat) (e : Ending) : Prop := ∃ (k : Int) (x : ByteArray) (hi : Int) (ok : Bool), e = .returned (.tuple #[.agg #[.int .i64 k, .string x, .int .i64 pos, .int .i64 hi], .bool ok]) ∧
  match oneL l with
  | some (k', x', n) => ok = true ∧ k = k' ∧ x = ⟨x'.toArray⟩ ∧ hi = ((pos + n : Nat) : Int)
  | none => ok = false

/-- Ahead of the three ways: the reader, the two blocks of tokens, and the text that is left. -/
structure At2 (w W : World) (R : Nat) (s Z : ByteArray) (pos : Nat) : Prop where
  rd : Rd W R s pos
  tk : Tk W (w.heap.size + 1) 0 ⟨#[]⟩ pos 0
  res : Tk W w.heap.size 0 ⟨#[]⟩ 0 0
  rest : W.heap[w.heap.size + 2]? = some (.cells #[.string Z] 9 (0, 0))
  below : Below w.heap.size w W

set_option maxHeartbeats 2000000 in
set_option maxRecDepth 100000 in
theorem next_quote (R : Nat) (s : ByteArray) (pos : Nat) (w : World) (h0 : pos < s.size) (hs : s.size ≤ 17592186044416) (hR : Rd w R s pos) (hE : Env w) (h34 : (s.get! pos).toNat = 34)
    (x : List UInt8) (n er : Int) (hu : unquoteL (s.data.toList.drop pos) = (x, n, er)) (hn0 : 0 ≤ n) (hn : n ≤ s.size) :
    Calls Tryd.prog 22 #[.pointer (some ⟨R, 0, none⟩)] w fun e w' => e = .returned (.tuple #[.agg #[.int .i64 4, .string ⟨x.toArray⟩, .int .i64 pos, .int .i64 (pos + n)], .bool (er == 0)]) ∧ Below w.heap.size w w' := by
  have c0 := hR.cell0
  have c1 := hR.cell1
  have d1 : (0 : Int) ≤ pos := by omega
  have d2 : (pos : Int) ≤ s.size := by omega
  have hlt := hR.lt
  have HE := Lib.hid hE
  clear hE
  go_enter Tryd.func22, Tryd.ntmps22
  go_wp2
  obtain ⟨W2, hW2⟩ : ∃ W2, (w.alloc (.cells #[.int .i64 0, .string ⟨#[]⟩, .int .i64 0, .int .i64 0] 31)).alloc (.cells #[.int .i64 0, .string ⟨#[]⟩, .int .i64 pos, .int .i64 0] 31) = W2 := ⟨_, rfl⟩
  have b2 : Below w.heap.size w W2 := by rw [← hW2]; exact ((Below.refl _ _).alloc (Nat.le_refl _) _).alloc (by simp) _
  have s2 : W2.heap.size = w.heap.size + 2 := by rw [← hW2]; simp
  have T2 : Tk W2 (w.heap.size + 1) 0 ⟨#[]⟩ pos 0 := by rw [← hW2]; exact heap_alloc2_new w _ _
  have Z2 : Tk W2 w.heap.size 0 ⟨#[]⟩ 0 0 := by
    rw [← hW2]
    unfold Tk
    rw [heap_alloc_old _ _ (by simp)]
    exact heap_alloc_new w _
  have R2 := hR.below b2
  rw [hW2]
  clear hW2 c0 c1
  have c0 : (W2.alloc (.cells #[.string ⟨#[]⟩] 9)).cell? ⟨R, 0, none⟩ = some (.string s) := by rw [World.cell?_alloc_lt _ _ _ R2.lt]; exact R2.cell0
  have c1 : (W2.alloc (.cells #[.string ⟨#[]⟩] 9)).cell? ⟨R, 1, none⟩ = some (.int .i64 pos) := by rw [World.cell?_alloc_lt _ _ _ R2.lt]; exact R2.cell1
  have c0' := R2.cell0
  have c1' := R2.cell1
  go_region
  have b3 : Below W2.heap.size W2 (W2.alloc (.cells #[.string (s.extract pos s.size)] 9)).drew := ((Below.refl _ _).alloc (Nat.le_refl _) _).drew
  have r3 : (W2.alloc (.cells #[.string (s.extract pos s.size)] 9)).drew.heap[w.heap.size + 2]? = some (.cells #[.string (s.extract pos s.size)] 9 (0, 0)) := by rw [← s2]; exact heap_alloc_new W2 _
  generalize (W2.alloc (.cells #[.string (s.extract pos s.size)] 9)).drew = W3 at b3 r3 ⊢
  have R3 := R2.below b3
  have T3 := T2.below b3
  have Z3 := Z2.below b3
  have c3 := b2.trans (b3.mono b2.size)
  clear c0 c1 c0' c1' R2 T2 Z2 b3 b2
  have hz := Lib.tail_size s pos
  have hzd := ext_tail s pos
  generalize s.extract pos s.size = Z at hz hzd r3 ⊢
  have hZ0 : 0 < Z.size := by omega
  have hg := get_lt Z 0 hZ0
  have hgz : Z.get! 0 = s.get! pos := by
    have h1 := get_data Z 0 hZ0
    rw [hzd, drop_cons s pos h0] at h1
    exact (Option.some.inj h1).symm
  have q34 : ((Z[0]'hZ0).toNat : Int) = 34 := by rw [hg, hgz]; omega
  have k0 : (0 : Int) < Z.size := by omega
  rw [← hzd] at hu
  have HU := Lib.hid (fun w hT => Unq Z w hT (by omega) x n er hu)
  clear hg hgz hzd hz hu
  have cz : W3.cell? ⟨w.heap.size + 2, 0, none⟩ = some (.string Z) := by rw [Lib.cell_of_heap r3]; rfl
  go_wp2_with fail
  refine (HU.out _ (HE.out.below c3).tabs).mono ?_
  rintro e W4 ⟨rfl, b4⟩
  have R4 := R3.below b4
  have T4 := T3.below b4
  have Z4 := Z3.below b4
  have c4 := c3.trans (b4.mono c3.size)
  clear R3 T3 Z3 c3 b4 cz r3 q34 hZ0 k0 HU s2
  dsimp only
  have c1 := R4.cell1
  have t0 := T4.cell0
  have t1 := T4.cell1
  have t3 := T4.cell3
  have f0 := T4.frozen 0
  have f1 := T4.frozen 1
  have f3 := T4.frozen 3
  have k1 : IntKind.i64.wrap ((pos : Int) + n) = (pos : Int) + n := IntWalk.i64_in _ (by omega)
  have hne : R ≠ w.heap.size + 1 := by omega
  go_wp2
  go_region
  have T5 : Tk (((W4.setCell ⟨w.heap.size + 1, 0, none⟩ (.int .i64 4)).setCell ⟨w.heap.size + 1, 1, none⟩ (.string ⟨x.toArray⟩)).setCell ⟨w.heap.size + 1, 3, none⟩ (.int .i64 (pos + n))).drew (w.heap.size + 1) 4 ⟨x.toArray⟩ pos (pos + n) := ((T4.set0 4).set1 ⟨x.toArray⟩).set3 (pos + n)
  have Z5 : Tk (((W4.setCell ⟨w.heap.size + 1, 0, none⟩ (.int .i64 4)).setCell ⟨w.heap.size + 1, 1, none⟩ (.string ⟨x.toArray⟩)).setCell ⟨w.heap.size + 1, 3, none⟩ (.int .i64 (pos + n))).drew w.heap.size 0 ⟨#[]⟩ 0 0 := ((Z4.far (by omega) 0 _).far (by omega) 1 _).far (by omega) 3 _
  have c5 : Below w.heap.size w (((W4.setCell ⟨w.heap.size + 1, 0, none⟩ (.int .i64 4)).setCell ⟨w.heap.size + 1, 1, none⟩ (.string ⟨x.toArray⟩)).setCell ⟨w.heap.size + 1, 3, none⟩ (.int .i64 (pos + n))).drew := (((c4.setCell (by simp) _).setCell (by simp) _).setCell (by simp) _).drew
  generalize (((W4.setCell ⟨w.heap.size + 1, 0, none⟩ (.int .i64 4)).setCell ⟨w.heap.size + 1, 1, none⟩ (.string ⟨x.toArray⟩)).setCell ⟨w.heap.size + 1, 3, none⟩ (.int .i64 (pos + n))).drew = W5 at T5 Z5 c5 ⊢
  clear t0 t1 t3 f0 f1 f3 c1 T4 Z4 R4 c4 k1
  have t0 := T5.cell0
  have t1 := T5.cell1
  have t2 := T5.cell2
  have t3 := T5.cell3
  have z0 := Z5.cell0
  have z1 := Z5.cell1
  have z2 := Z5.cell2
  have z3 := Z5.cell3
  have g0 := Z5.frozen 0
  have g1 := Z5.frozen 1
  have g2 := Z5.frozen 2
  have g3 := Z5.frozen 3
  go_wp2
  have Z6 := Z5.put4 4 ⟨x.toArray⟩ pos (pos + n)
  have c6 := below_put4 c5 w.heap.size (Nat.le_refl _) 4 ⟨x.toArray⟩ pos (pos + n)
  unfold put4 at Z6 c6
  generalize (((W5.setCell ⟨w.heap.size, 0, none⟩ (.int .i64 4)).setCell ⟨w.heap.size, 1, none⟩ (.string ⟨x.toArray⟩)).setCell ⟨w.heap.size, 2, none⟩ (.int .i64 pos)).setCell ⟨w.heap.size, 3, none⟩ (.int .i64 (pos + n)) = W6 at Z6 c6 ⊢
  have y0 := Z6.cell0
  have y1 := Z6.cell1
  have y2 := Z6.cell2
  have y3 := Z6.cell3
  exact bodyPost_ret (v := .tuple #[.agg #[.int .i64 4, .string ⟨x.toArray⟩, .int .i64 pos, .int .i64 (pos + n)], .bool (er == 0)]) (by simp [results, Tryd.results22, go_sem, y0, y1, y2, y3]) rfl ⟨rfl, c6⟩
set_option maxHeartbeats 2000000 in
set_option maxRecDepth 100000 in
theorem next_word (R : Nat) (s : ByteArray) (pos : Nat) (w : World) (h0 : pos < s.size) (hs : s.size ≤ 17592186044416) (hR : Rd w R s pos) (hE : Env w) (h34 : ¬ (s.get! pos).toNat = 34)
    (y : ByteArray) (hy : wordOf (s.data.toList.drop pos) = y.data.toList) (hne : y.toList.isEmpty = false) (hys : y.size ≤ s.size) (k : Int) (ok : Bool) (hk : kindR y.data.toList = (k, ok)) :
    Calls Tryd.prog 22 #[.pointer (some ⟨R, 0, none⟩)] w fun e w' => e = .returned (.tuple #[.agg #[.int .i64 k, .string y, .int .i64 pos, .int .i64 (pos + y.size)], .bool ok]) ∧ Below w.heap.size w w' := by
  have c0 := hR.cell0
  have c1 := hR.cell1
  have d1 : (0 : Int) ≤ pos := by omega
  have d2 : (pos : Int) ≤ s.size := by omega
  have hlt := hR.lt
  have HE := Lib.hid hE
  clear hE
  go_enter Tryd.func22, Tryd.ntmps22
  go_wp2
  obtain ⟨W2, hW2⟩ : ∃ W2, (w.alloc (.cells #[.int .i64 0, .string ⟨#[]⟩, .int .i64 0, .int .i64 0] 31)).alloc (.cells #[.int .i64 0, .string ⟨#[]⟩, .int .i64 pos, .int .i64 0] 31) = W2 := ⟨_, rfl⟩
  have b2 : Below w.heap.size w W2 := by rw [← hW2]; exact ((Below.refl _ _).alloc (Nat.le_refl _) _).alloc (by simp) _
  have s2 : W2.heap.size = w.heap.size + 2 := by rw [← hW2]; simp
  have T2 : Tk W2 (w.heap.size + 1) 0 ⟨#[]⟩ pos 0 := by rw [← hW2]; exact heap_alloc2_new w _ _
  have Z2 : Tk W2 w.heap.size 0 ⟨#[]⟩ 0 0 := by
    rw [← hW2]
    unfold Tk
    rw [heap_alloc_old _ _ (by simp)]
    exact heap_alloc_new w _
  have R2 := hR.below b2
  rw [hW2]
  clear hW2 c0 c1
  have c0 : (W2.alloc (.cells #[.string ⟨#[]⟩] 9)).cell? ⟨R, 0, none⟩ = some (.string s) := by rw [World.cell?_alloc_lt _ _ _ R2.lt]; exact R2.cell0
  have c1 : (W2.alloc (.cells #[.string ⟨#[]⟩] 9)).cell? ⟨R, 1, none⟩ = some (.int .i64 pos) := by rw [World.cell?_alloc_lt _ _ _ R2.lt]; exact R2.cell1
  have c0' := R2.cell0
  have c1' := R2.cell1
  go_region
  have b3 : Below W2.heap.size W2 (W2.alloc (.cells #[.string (s.extract pos s.size)] 9)).drew := ((Below.refl _ _).alloc (Nat.le_refl _) _).drew
  have r3 : (W2.alloc (.cells #[.string (s.extract pos s.size)] 9)).drew.heap[w.heap.size + 2]? = some (.cells #[.string (s.extract pos s.size)] 9 (0, 0)) := by rw [← s2]; exact heap_alloc_new W2 _
  generalize (W2.alloc (.cells #[.string (s.extract pos s.size)] 9)).drew = W3 at b3 r3 ⊢
  have R3 := R2.below b3
  have T3 := T2.below b3
  have Z3 := Z2.below b3
  have c3 := b2.trans (b3.mono b2.size)
  clear c0 c1 c0' c1' R2 T2 Z2 b3 b2
  have hz := Lib.tail_size s pos
  have hzd := ext_tail s pos
  generalize s.extract pos s.size = Z at hz hzd r3 ⊢
  have hZ0 : 0 < Z.size := by omega
  have hg := get_lt Z 0 hZ0
  have hgz : Z.get! 0 = s.get! pos := by
    have h1 := get_data Z 0 hZ0
    rw [hzd, drop_cons s pos h0] at h1
    exact (Option.some.inj h1).symm
  have q34 : (((Z[0]'hZ0).toNat : Int) == 34) = false := by rw [hg, hgz, beq_eq_false_iff_ne]; omega
  have k0 : (0 : Int) < Z.size := by omega
  clear hg hgz hzd hz
  have cz : W3.cell? ⟨w.heap.size + 2, 0, none⟩ = some (.string Z) := by rw [Lib.cell_of_heap r3]; rfl
  have HW := Lib.hid (word R s pos W3 (by omega) R3)
  have HY := Lib.hid hy
  have HK := Lib.hid (fun w => kind y w (by omega))
  have HKR := Lib.hid hk
  clear hk hy
  go_wp2_with fail
  have hw := HW.out
  rw [HY.out, show (⟨y.data.toList.toArray⟩ : ByteArray) = y from rfl] at hw
  refine hw.mono ?_
  clear hw HW
  rintro e W4 ⟨rfl, b4⟩
  have R4 := R3.below b4
  have T4 := T3.below b4
  have Z4 := Z3.below b4
  have c4 := c3.trans (b4.mono c3.size)
  clear R3 T3 Z3 c3 b4 cz r3 q34 k0
  dsimp only
  go_wp2_with fail
  have hk := HK.out _ (HE.out.below c4)
  rw [HKR.out] at hk
  refine hk.mono ?_
  clear hk HK HKR
  rintro e W5 ⟨rfl, b5⟩
  have R5 := R4.below b5
  have T5 := T4.below b5
  have Z5 := Z4.below b5
  have c5 := c4.trans (b5.mono c4.size)
  clear R4 T4 Z4 c4 b5
  dsimp only
  have c1 := R5.cell1
  have t0 := T5.cell0
  have t1 := T5.cell1
  have t3 := T5.cell3
  have f0 := T5.frozen 0
  have f1 := T5.frozen 1
  have f3 := T5.frozen 3
  have k1 : IntKind.i64.wrap ((pos : Int) + (y.size : Int)) = (pos : Int) + (y.size : Int) := IntWalk.i64_in _ (by omega)
  have hne : R ≠ w.heap.size + 1 := by omega
  go_wp2
  go_region
  have T6 : Tk (((W5.setCell ⟨w.heap.size + 1, 0, none⟩ (.int .i64 k)).setCell ⟨w.heap.size + 1, 1, none⟩ (.string y)).setCell ⟨w.heap.size + 1, 3, none⟩ (.int .i64 (pos + y.size))).drew (w.heap.size + 1) k y pos (pos + y.size) := ((T5.set0 k).set1 y).set3 (pos + y.size)
  have Z6 : Tk (((W5.setCell ⟨w.heap.size + 1, 0, none⟩ (.int .i64 k)).setCell ⟨w.heap.size + 1, 1, none⟩ (.string y)).setCell ⟨w.heap.size + 1, 3, none⟩ (.int .i64 (pos + y.size))).drew w.heap.size 0 ⟨#[]⟩ 0 0 := ((Z5.far (by omega) 0 _).far (by omega) 1 _).far (by omega) 3 _
  have c6 : Below w.heap.size w (((W5.setCell ⟨w.heap.size + 1, 0, none⟩ (.int .i64 k)).setCell ⟨w.heap.size + 1, 1, none⟩ (.string y)).setCell ⟨w.heap.size + 1, 3, none⟩ (.int .i64 (pos + y.size))).drew := (((c5.setCell (by simp) _).setCell (by simp) _).setCell (by simp) _).drew
  generalize (((W5.setCell ⟨w.heap.size + 1, 0, none⟩ (.int .i64 k)).setCell ⟨w.heap.size + 1, 1, none⟩ (.string y)).setCell ⟨w.heap.size + 1, 3, none⟩ (.int .i64 (pos + y.size))).drew = W6 at T6 Z6 c6 ⊢
  clear t0 t1 t3 f0 f1 f3 c1 T5 Z5 R5 c5 k1
  have t0 := T6.cell0
  have t1 := T6.cell1
  have t2 := T6.cell2
  have t3 := T6.cell3
  have z0 := Z6.cell0
  have z1 := Z6.cell1
  have z2 := Z6.cell2
  have z3 := Z6.cell3
  have g0 := Z6.frozen 0
  have g1 := Z6.frozen 1
  have g2 := Z6.frozen 2
  have g3 := Z6.frozen 3
  go_wp2
  have Z7 := Z6.put4 k y pos (pos + y.size)
  have c7 := below_put4 c6 w.heap.size (Nat.le_refl _) k y pos (pos + y.size)
  unfold put4 at Z7 c7
  generalize (((W6.setCell ⟨w.heap.size, 0, none⟩ (.int .i64 k)).setCell ⟨w.heap.size, 1, none⟩ (.string y)).setCell ⟨w.heap.size, 2, none⟩ (.int .i64 pos)).setCell ⟨w.heap.size, 3, none⟩ (.int .i64 (pos + y.size)) = W7 at Z7 c7 ⊢
  have y0 := Z7.cell0
  have y1 := Z7.cell1
  have y2 := Z7.cell2
  have y3 := Z7.cell3
  exact bodyPost_ret (v := .tuple #[.agg #[.int .i64 k, .string y, .int .i64 pos, .int .i64 (pos + y.size)], .bool ok]) (by simp [results, Tryd.results22, go_sem, y0, y1, y2, y3]) rfl ⟨rfl, c7⟩
/-- The first of the signs that fits, by its place. -/
theorem idx_find (p : List UInt8 → Bool) (d : List UInt8) : ∀ (l : List (List UInt8)) (i : Nat), (l.find? p = none ∧ Lib.idxByFrom (fun _ y => p y) d l i = -1) ∨
    ∃ k x, l.find? p = some x ∧ l[k]? = some x ∧ Lib.idxByFrom (fun _ y => p y) d l i = ((i + k : Nat) : Int)
  | [], i => .inl ⟨rfl, rfl⟩
  | y :: l, i => by
    by_cases h : p y = true
    · exact .inr ⟨0, y, by rw [List.find?_cons, h], rfl, by simp [Lib.idxByFrom, h]⟩
    · have h' : p y = false := Bool.eq_false_iff.2 h
      rcases idx_find p d l (i + 1) with ⟨h1, h2⟩ | ⟨k, x, h1, h2, h3⟩
      · exact .inl ⟨by rw [List.find?_cons, h']; exact h1, by simp only [Lib.idxByFrom, h']; exact h2⟩
      · refine .inr ⟨k + 1, x, by rw [List.find?_cons, h']; exact h1, by simpa using h2, ?_⟩
        simp only [Lib.idxByFrom, h']
        have : i + 1 + k = i + (k + 1) := by omega
        rw [← this]; exact h3

theorem sign_pred (Z : ByteArray) (b : Nat) (W : World) (hc : W.cell? ⟨b, 0, none⟩ = some (.string Z)) :
    PredAt Tryd.prog 42 #[.pointer (some ⟨b, 0, none⟩)] (fun x : List UInt8 => Value.string ⟨x.toArray⟩) (fun x => x.isPrefixOf Z.data.toList) W :=
  fun W' x hb => (next1 Z ⟨x.toArray⟩ b W' ((hb.cell (lt_of_cell hc)).trans hc)).mono fun _ _ ⟨he, hw⟩ => ⟨he, 0, hw⟩

set_option maxHeartbeats 2000000 in
set_option maxRecDepth 100000 in
theorem next_sign (R : Nat) (s : ByteArray) (pos : Nat) (w : World) (h0 : pos < s.size) (hs : s.size ≤ 17592186044416) (hR : Rd w R s pos) (h34 : ¬ (s.get! pos).toNat = 34)
    (hy : wordOf (s.data.toList.drop pos) = []) :
    Calls Tryd.prog 22 #[.pointer (some ⟨R, 0, none⟩)] w fun e w' => NextIs (s.data.toList.drop pos) pos e ∧ Below w.heap.size w w' := by
  have hsz := signs_size
  have h1 := strCells_one signsL
  have hinfo : (Tryd.prog.info? 54).map (·.size) = some (strCells signsL).size := by rw [hsz]; kernel_rfl
  obtain ⟨c, hc⟩ : ∃ c, strCells signsL = c := ⟨_, rfl⟩
  rw [hc] at hsz h1 hinfo
  have HC := Lib.hid hc
  clear hc
  have c0 := hR.cell0
  have c1 := hR.cell1
  have d1 : (0 : Int) ≤ pos := by omega
  have d2 : (pos : Int) ≤ s.size := by omega
  have hlt := hR.lt
  go_enter Tryd.func22, Tryd.ntmps22
  go_wp2
  obtain ⟨W2, hW2⟩ : ∃ W2, (w.alloc (.cells #[.int .i64 0, .string ⟨#[]⟩, .int .i64 0, .int .i64 0] 31)).alloc (.cells #[.int .i64 0, .string ⟨#[]⟩, .int .i64 pos, .int .i64 0] 31) = W2 := ⟨_, rfl⟩
  have b2 : Below w.heap.size w W2 := by rw [← hW2]; exact ((Below.refl _ _).alloc (Nat.le_refl _) _).alloc (by simp) _
  have s2 : W2.heap.size = w.heap.size + 2 := by rw [← hW2]; simp
  have T2 : Tk W2 (w.heap.size + 1) 0 ⟨#[]⟩ pos 0 := by rw [← hW2]; exact heap_alloc2_new w _ _
  have Z2 : Tk W2 w.heap.size 0 ⟨#[]⟩ 0 0 := by
    rw [← hW2]
    unfold Tk
    rw [heap_alloc_old _ _ (by simp)]
    exact heap_alloc_new w _
  have R2 := hR.below b2
  rw [hW2]
  clear hW2 c0 c1
  have c0 : (W2.alloc (.cells #[.string ⟨#[]⟩] 9)).cell? ⟨R, 0, none⟩ = some (.string s) := by rw [World.cell?_alloc_lt _ _ _ R2.lt]; exact R2.cell0
  have c1 : (W2.alloc (.cells #[.string ⟨#[]⟩] 9)).cell? ⟨R, 1, none⟩ = some (.int .i64 pos) := by rw [World.cell?_alloc_lt _ _ _ R2.lt]; exact R2.cell1
  have c0' := R2.cell0
  have c1' := R2.cell1
  go_region
  have b3 : Below W2.heap.size W2 (W2.alloc (.cells #[.string (s.extract pos s.size)] 9)).drew := ((Below.refl _ _).alloc (Nat.le_refl _) _).drew
  have r3 : (W2.alloc (.cells #[.string (s.extract pos s.size)] 9)).drew.heap[w.heap.size + 2]? = some (.cells #[.string (s.extract pos s.size)] 9 (0, 0)) := by rw [← s2]; exact heap_alloc_new W2 _
  generalize (W2.alloc (.cells #[.string (s.extract pos s.size)] 9)).drew = W3 at b3 r3 ⊢
  have R3 := R2.below b3
  have T3 := T2.below b3
  have Z3 := Z2.below b3
  have c3 := b2.trans (b3.mono b2.size)
  clear c0 c1 c0' c1' R2 T2 Z2 b3 b2
  have hz := Lib.tail_size s pos
  have hzd := ext_tail s pos
  generalize s.extract pos s.size = Z at hz hzd r3 ⊢
  have hZ0 : 0 < Z.size := by omega
  have hg := get_lt Z 0 hZ0
  have hgz : Z.get! 0 = s.get! pos := by
    have h1 := get_data Z 0 hZ0
    rw [hzd, drop_cons s pos h0] at h1
    exact (Option.some.inj h1).symm
  have q34 : (((Z[0]'hZ0).toNat : Int) == 34) = false := by rw [hg, hgz, beq_eq_false_iff_ne]; omega
  have k0 : (0 : Int) < Z.size := by omega
  have HZD := Lib.hid hzd
  clear hg hgz hzd hz
  have cz : W3.cell? ⟨w.heap.size + 2, 0, none⟩ = some (.string Z) := by rw [Lib.cell_of_heap r3]; rfl
  have HW := Lib.hid (word R s pos W3 (by omega) R3)
  have HY := Lib.hid hy
  clear hy
  go_wp2_with fail
  have hw := HW.out
  rw [HY.out] at hw
  refine hw.mono ?_
  clear hw HW
  rintro e W4 ⟨rfl, b4⟩
  have R4 := R3.below b4
  have T4 := T3.below b4
  have Z4 := Z3.below b4
  have c4 := c3.trans (b4.mono c3.size)
  have r4 : W4.heap[w.heap.size + 2]? = some (.cells #[.string Z] 9 (0, 0)) := (b4.block _ (heap_lt r3)).trans r3
  clear R3 T3 Z3 c3 b4 cz r3 q34 k0
  dsimp only
  go_wp2_with fail
  have hsg := signs W4
  rw [HC.out] at hsg
  refine hsg.mono ?_
  clear hsg
  rintro e W5 ⟨rfl, b5⟩
  have R5 := R4.below b5
  have T5 := T4.below b5
  have Z5 := Z4.below b5
  have c5 := c4.trans (b5.mono c4.size)
  have r5 : W5.heap[w.heap.size + 2]? = some (.cells #[.string Z] 9 (0, 0)) := (b5.block _ (heap_lt r4)).trans r4
  clear R4 T4 Z4 c4 b5 r4
  dsimp only
  go_wp2_with ((refine wpList_store_row rfl 54 (.tmp 12) (.tmp 73) rfl W5.heap.size c rfl rfl 54 _ (heap_alloc_new W5 _) hinfo (by rw [hsz]; rfl) h1 ?_); rw [World.setRow_alloc_new])
  have b6 : Below W5.heap.size W5 (W5.alloc (.cells c 54)) := (Below.refl _ _).alloc (Nat.le_refl _) _
  have a6 : (W5.alloc (.cells c 54)).heap[W5.heap.size]? = some (.cells c 54 (0, 0)) := heap_alloc_new W5 _
  have r6 : (W5.alloc (.cells c 54)).heap[w.heap.size + 2]? = some (.cells #[.string Z] 9 (0, 0)) := (b6.block _ (heap_lt r5)).trans r5
  have R6 := R5.below b6
  have T6 := T5.below b6
  have Z6 := Z5.below b6
  have c6 := c5.trans (b6.mono c5.size)
  have hbig := heap_lt r5
  generalize W5.alloc (.cells c 54) = W6 at b6 a6 r6 R6 T6 Z6 c6 ⊢
  clear R5 T5 Z5 c5 b6 r5
  have hN : w.heap.size + 2 < W5.heap.size := hbig
  obtain ⟨N, hNe⟩ : ∃ N, W5.heap.size = N := ⟨_, rfl⟩
  rw [hNe] at a6 hN ⊢
  clear hNe hbig h1 hinfo hsz
  have hcells : ∀ j, j < signsL.length → W6.cell? ⟨N, 0 + j, none⟩ = some (Value.string ⟨(signsL[j]!).toArray⟩) := by
    intro j hj
    rw [Lib.cell_of_heap a6, ← HC.out, Nat.zero_add]
    simp [strCells, hj]
  have cz6 : W6.cell? ⟨w.heap.size + 2, 0, none⟩ = some (.string Z) := by rw [Lib.cell_of_heap r6]; rfl
  have hidx := Tryd.slices_IndexFunc (fun x : List UInt8 => Value.string ⟨x.toArray⟩) (fun x => x.isPrefixOf Z.data.toList) 42 #[.pointer (some ⟨w.heap.size + 2, 0, none⟩)] (enters_of Tryd.func42 (by kernel_rfl) rfl) N 0 24 24 signsL W6 (sign_pred Z _ W6 cz6) (by decide) (by decide) hcells
  have hfi := idx_find (fun x => x.isPrefixOf Z.data.toList) default (signsL.take 24) 0
  rw [HZD.out] at hidx hfi
  have hdrop : s.data.toList.drop pos = s.get! pos :: s.data.toList.drop (pos + 1) := drop_cons s pos h0
  have HD := Lib.hid hdrop
  have HCL := Lib.hid hcells
  refine hidx.mono ?_
  clear hidx hdrop hcells
  rintro e W7 ⟨rfl, q, rfl⟩
  have R5 := R6.drewN q
  have T5 := T6.below (below_drewN' (Below.refl _ _) q)
  have Z5 := Z6.below (below_drewN' (Below.refl _ _) q)
  have c5 := below_drewN' c6 q
  have a5 : (W6.drewN q).heap[N]? = some (.cells c 54 (0, 0)) := (below_drewN' (Below.refl W6.heap.size W6) q).block _ (heap_lt a6) |>.trans a6
  generalize W6.drewN q = W8 at R5 T5 Z5 c5 a5 ⊢
  clear a6 R6 T6 Z6 c6 cz6 r6
  dsimp only
  rcases hfi with ⟨hf, hi⟩ | ⟨k, x, hf, hx, hi⟩
  · have hi' : Lib.idxBy (fun _ y => y.isPrefixOf (s.data.toList.drop pos)) (signsL.take 24) default = -1 := hi
    rw [hi']
    have ho : oneL (s.data.toList.drop pos) = none := by
      rw [HD.out]
      simp only [oneL]
      rw [if_neg h34, ← HD.out, if_pos HY.out]
      have hs' : signOf (s.data.toList.drop pos) = none := hf
      rw [hs']; rfl
    have HO := Lib.hid ho
    clear hf hi hi' ho a5
    have T6 := T5
    have Z6 := Z5
    have c6 := c5
    clear T5 Z5 c5
    clear R5
    have t0 := T6.cell0
    have t1 := T6.cell1
    have t2 := T6.cell2
    have t3 := T6.cell3
    have z0 := Z6.cell0
    have z1 := Z6.cell1
    have z2 := Z6.cell2
    have z3 := Z6.cell3
    have g0 := Z6.frozen 0
    have g1 := Z6.frozen 1
    have g2 := Z6.frozen 2
    have g3 := Z6.frozen 3
    go_wp2
    have Z7 := Z6.put4 0 ⟨#[]⟩ pos 0
    have c7 := below_put4 c6 w.heap.size (Nat.le_refl _) 0 ⟨#[]⟩ pos 0
    unfold put4 at Z7 c7
    generalize (((W6.setCell ⟨w.heap.size, 0, none⟩ (.int .i64 0)).setCell ⟨w.heap.size, 1, none⟩ (.string ⟨#[]⟩)).setCell ⟨w.heap.size, 2, none⟩ (.int .i64 pos)).setCell ⟨w.heap.size, 3, none⟩ (.int .i64 0) = W7 at Z7 c7 ⊢
    have y0 := Z7.cell0
    have y1 := Z7.cell1
    have y2 := Z7.cell2
    have y3 := Z7.cell3
    exact bodyPost_ret (v := .tuple #[.agg #[.int .i64 0, .string ⟨#[]⟩, .int .i64 pos, .int .i64 0], .bool false]) (by simp [results, Tryd.results22, go_sem, y0, y1, y2, y3]) rfl ⟨⟨0, ⟨#[]⟩, 0, false, rfl, by rw [HO.out]⟩, c7⟩
  · have hi' : Lib.idxBy (fun _ y => y.isPrefixOf (s.data.toList.drop pos)) (signsL.take 24) default = (k : Int) := by have h2 := hi; rw [Nat.zero_add] at h2; exact h2
    rw [hi']
    have hx' : signsL[k]? = some x := hx
    have hk : k < 24 := (List.getElem?_eq_some_iff.1 hx').1
    have hcx : W8.cell? ⟨N, k, none⟩ = some (.string ⟨x.toArray⟩) := by
      rw [Lib.cell_of_heap a5, ← HC.out]
      simp [strCells, hx']
    have hxl : x.length ≤ 2 := (signs_pos x (List.mem_of_getElem? hx')).2
    have hys : (⟨x.toArray⟩ : ByteArray).size = x.length := mk_size x
    have hns : ∃ y : ByteArray, (⟨x.toArray⟩ : ByteArray) = y := ⟨_, rfl⟩
    obtain ⟨y, hy⟩ := hns
    rw [hy] at hcx hys
    have hy2 : y.size ≤ 2 := by omega
    have ho : oneL (s.data.toList.drop pos) = some (5, x, x.length) := by
      rw [HD.out]
      simp only [oneL]
      rw [if_neg h34, ← HD.out, if_pos HY.out]
      have hs' : signOf (s.data.toList.drop pos) = some x := hf
      rw [hs']; rfl
    have HO := Lib.hid ho
    have HYS := Lib.hid hys
    have HYX := Lib.hid hy
    clear hf hi hi' ho a5 hx hx' hys hy hxl
    have k2 : (k : Int) < 24 := by omega
    have k3 : (0 : Int) ≤ k := by omega
    have c1 := R5.cell1
    have t0 := T5.cell0
    have t1 := T5.cell1
    have t3 := T5.cell3
    have f0 := T5.frozen 0
    have f1 := T5.frozen 1
    have f3 := T5.frozen 3
    have k1 : IntKind.i64.wrap ((pos : Int) + (y.size : Int)) = (pos : Int) + (y.size : Int) := IntWalk.i64_in _ (by omega)
    have hne : R ≠ w.heap.size + 1 := by omega
    have hne2 : N ≠ w.heap.size + 1 := by omega
    clear HCL
    go_wp2
    go_region
    have T6 : Tk (((W8.setCell ⟨w.heap.size + 1, 0, none⟩ (.int .i64 5)).setCell ⟨w.heap.size + 1, 1, none⟩ (.string y)).setCell ⟨w.heap.size + 1, 3, none⟩ (.int .i64 (pos + y.size))).drew (w.heap.size + 1) 5 y pos (pos + y.size) := ((T5.set0 5).set1 y).set3 (pos + y.size)
    have Z6 : Tk (((W8.setCell ⟨w.heap.size + 1, 0, none⟩ (.int .i64 5)).setCell ⟨w.heap.size + 1, 1, none⟩ (.string y)).setCell ⟨w.heap.size + 1, 3, none⟩ (.int .i64 (pos + y.size))).drew w.heap.size 0 ⟨#[]⟩ 0 0 := ((Z5.far (by omega) 0 _).far (by omega) 1 _).far (by omega) 3 _
    have c6 : Below w.heap.size w (((W8.setCell ⟨w.heap.size + 1, 0, none⟩ (.int .i64 5)).setCell ⟨w.heap.size + 1, 1, none⟩ (.string y)).setCell ⟨w.heap.size + 1, 3, none⟩ (.int .i64 (pos + y.size))).drew := (((c5.setCell (by simp) _).setCell (by simp) _).setCell (by simp) _).drew
    generalize (((W8.setCell ⟨w.heap.size + 1, 0, none⟩ (.int .i64 5)).setCell ⟨w.heap.size + 1, 1, none⟩ (.string y)).setCell ⟨w.heap.size + 1, 3, none⟩ (.int .i64 (pos + y.size))).drew = W6 at T6 Z6 c6 ⊢
    clear t0 t1 t3 f0 f1 f3 c1 T5 Z5 R5 c5 k1
    have t0 := T6.cell0
    have t1 := T6.cell1
    have t2 := T6.cell2
    have t3 := T6.cell3
    have z0 := Z6.cell0
    have z1 := Z6.cell1
    have z2 := Z6.cell2
    have z3 := Z6.cell3
    have g0 := Z6.frozen 0
    have g1 := Z6.frozen 1
    have g2 := Z6.frozen 2
    have g3 := Z6.frozen 3
    go_wp2
    have Z7 := Z6.put4 5 y pos (pos + y.size)
    have c7 := below_put4 c6 w.heap.size (Nat.le_refl _) 5 y pos (pos + y.size)
    unfold put4 at Z7 c7
    generalize (((W6.setCell ⟨w.heap.size, 0, none⟩ (.int .i64 5)).setCell ⟨w.heap.size, 1, none⟩ (.string y)).setCell ⟨w.heap.size, 2, none⟩ (.int .i64 pos)).setCell ⟨w.heap.size, 3, none⟩ (.int .i64 (pos + y.size)) = W7 at Z7 c7 ⊢
    have y0 := Z7.cell0
    have y1 := Z7.cell1
    have y2 := Z7.cell2
    have y3 := Z7.cell3
    exact bodyPost_ret (v := .tuple #[.agg #[.int .i64 5, .string y, .int .i64 pos, .int .i64 (pos + y.size)], .bool true]) (by simp [results, Tryd.results22, go_sem, y0, y1, y2, y3]) rfl ⟨⟨5, y, (pos + y.size), true, rfl, by rw [HO.out]; exact ⟨rfl, rfl, HYX.out.symm, by rw [HYS.out]; omega⟩⟩, c7⟩

theorem quote_cases {l r : List UInt8} {c : UInt8} (hl : l = c :: r) (hc : c.toNat = 34) :
    (oneL l = none ∧ unquoteL l = ([], 0, 2)) ∨ ∃ x n, oneL l = some (4, x, n) ∧ unquoteL l = (x, (n : Int), 0) := by
  subst hl
  have h34 : c = 34 := UInt8.toNat.inj hc
  have hu : unquoteL (c :: r) = finL [] 1 (unqL r) := by unfold unquoteL; rw [if_pos (by rw [h34]; rfl)]; rfl
  simp only [oneL]
  rw [if_pos hc, hu]
  cases unqL r with
  | none => exact .inl ⟨rfl, rfl⟩
  | some p => exact .inr ⟨p.1, p.2 + 1, rfl, by simp only [finL, List.nil_append]; congr 2; omega⟩

/-- The next token, as the plain law says. -/
theorem next (R : Nat) (s : ByteArray) (pos : Nat) (w : World) (h0 : pos < s.size) (hs : s.size ≤ 17592186044416) (hR : Rd w R s pos) (hE : Env w) :
    Calls Tryd.prog 22 #[.pointer (some ⟨R, 0, none⟩)] w fun e w' => NextIs (s.data.toList.drop pos) pos e ∧ Below w.heap.size w w' := by
  have hd := drop_cons s pos h0
  by_cases h34 : (s.get! pos).toNat = 34
  · rcases quote_cases hd h34 with ⟨ho, hu⟩ | ⟨x, n, ho, hu⟩
    · refine (next_quote R s pos w h0 hs hR hE h34 [] 0 2 hu (Int.le_refl 0) (by omega)).mono fun e w' ⟨he, hb⟩ => ⟨?_, hb⟩
      exact ⟨4, _, _, _, he, by rw [ho]; rfl⟩
    · have hl := oneL_len ho
      rw [List.length_drop, size_data] at hl
      refine (next_quote R s pos w h0 hs hR hE h34 x n 0 hu (by omega) (by omega)).mono fun e w' ⟨he, hb⟩ => ⟨?_, hb⟩
      exact ⟨4, _, _, _, he, by rw [ho]; exact ⟨rfl, rfl, rfl, by omega⟩⟩
  · by_cases hw : wordOf (s.data.toList.drop pos) = []
    · exact next_sign R s pos w h0 hs hR h34 hw
    · have hle : (wordOf (s.data.toList.drop pos)).length ≤ (s.data.toList.drop pos).length := List.IsPrefix.length_le (List.takeWhile_prefix _)
      rw [List.length_drop, size_data] at hle
      have hys : (⟨(wordOf (s.data.toList.drop pos)).toArray⟩ : ByteArray).size = (wordOf (s.data.toList.drop pos)).length := mk_size _
      refine (next_word R s pos w h0 hs hR hE h34 ⟨(wordOf (s.data.toList.drop pos)).toArray⟩ rfl (by rw [toList_data]; cases h : wordOf (s.data.toList.drop pos) with
        | nil => exact absurd h hw
        | cons a b => rfl) (by omega) _ _ rfl).mono fun e w' ⟨he, hb⟩ => ⟨?_, hb⟩
      refine ⟨_, _, _, _, he, ?_⟩
      have ho : oneL (s.data.toList.drop pos) = (kindOf (wordOf (s.data.toList.drop pos))).map fun k => (k, wordOf (s.data.toList.drop pos), (wordOf (s.data.toList.drop pos)).length) := by
        conv => lhs; rw [hd]
        simp only [oneL]
        rw [if_neg h34, ← hd, if_neg hw]
      rw [ho]
      have e1 : (⟨(wordOf (s.data.toList.drop pos)).toArray⟩ : ByteArray).data.toList = wordOf (s.data.toList.drop pos) := rfl
      rw [e1]
      cases kindOf (wordOf (s.data.toList.drop pos)) with
      | none => rfl
      | some k => exact ⟨rfl, rfl, rfl, by rw [hys]; omega⟩
end Lxw
end Go.Proofs.YtelejpajnemmfaaDoor
