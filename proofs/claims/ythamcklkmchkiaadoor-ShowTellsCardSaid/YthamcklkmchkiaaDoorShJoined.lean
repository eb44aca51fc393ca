/-
  DERIVED. LAYER 21 (show): texts and numbers, one behind the other, walked.
-/
import Derived.Test.YthamcklkmchkiaaDoorShFig
import Derived.Lib.AppendIntMem
namespace Go.Proofs.YthamcklkmchkiaaDoor
open Go.RowKit
namespace Shw
open Gl Glw Sh

/-- A text, or a number (of int, or of int64). -/
def Item := Sum ByteArray (Bool × Int)
def itemV : Item → Value
  | .inl s => .iface 9 (.string s)
  | .inr (false, n) => .iface 3 (.int .i64 n)
  | .inr (true, n) => .iface 2 (.int .i64 n)
def itemB : Item → List UInt8
  | .inl s => s.data.toList
  | .inr (_, n) => Lib.itoa n
def itemOk : Item → Prop
  | .inl _ => True
  | .inr (_, n) => -9223372036854775808 ≤ n ∧ n ≤ 9223372036854775807
def itemsB (l : List Item) : List UInt8 := (l.map itemB).flatten
theorem itemsB_succ (l : List Item) (k : Nat) (x : Item) (h : l[k]? = some x) : itemsB (l.take (k + 1)) = itemsB (l.take k) ++ itemB x := by
  unfold itemsB
  rw [List.take_add_one, h]
  simp
theorem itemsB_le (l : List Item) (k : Nat) : (itemsB (l.take k)).length ≤ (itemsB l).length := by
  conv => rhs; rw [← List.take_append_drop k l]
  unfold itemsB
  rw [List.map_append, List.flatten_append, List.length_append]
  omega

/-- The builder, and what is as it was. -/
def JRel (w : World) (l : List Item) (k : Nat) (wr : World) : Prop := Bld.Is w.heap.size w.heap.size (Lib.byteCells (itemsB (l.take k))) wr ∧ Below w.heap.size w wr

theorem is_below {B b : Nat} {bs : List Value} {W W' : World} (h : Bld.Is B b bs W) (hb : Below W.heap.size W W') : Bld.Is B b bs W' := by
  have at_ : ∀ p, Lib.BuilderAtF 76 5 B b p bs W → Lib.BuilderAtF 76 5 B b p bs W' := by
    intro p h
    have hlt := h.lt
    obtain ⟨hB, v, hv, hown, hne⟩ := h
    exact ⟨hB, v, (hb.block b hlt).trans hv, hown.kept (row := none) ⟨hb.os, hb.tape, hb.output, hb.size, fun k hk _ => hb.block k hk⟩ (Classical.em _), hne⟩
  rcases h with h | h
  · exact .inl (at_ _ h)
  · exact .inr (at_ _ h)
theorem below_grow (w : World) (n : Nat) (os : Array Obj) : Below w.heap.size w (Sort.grow (w.drewN n) os) :=
  ⟨rfl, rfl, rfl, by show w.heap.size ≤ (w.heap ++ os).size; rw [Array.size_append]; omega, fun k hk => by show (w.heap ++ os)[k]? = _; rw [Array.getElem?_append_left hk]⟩
theorem Env.below {w w' : World} (h : Env w) (hb : Below w.heap.size w w') : Env w' :=
  ⟨Utf8Tabs_below h.1 hb, Lib.tabBelow_of_tabIs h.2.1 w' hb, Lib.tabBelow_of_tabIs h.2.2 w' hb⟩
theorem Itoa (n : Int) (h0 : -9223372036854775808 ≤ n) (h1 : n ≤ 9223372036854775807) (w : World) (hE : Env w) :
    Calls Tryd.prog 42 #[.int .i64 n] w fun e w' => e = .returned (.string ⟨(Lib.itoa n).toArray⟩) ∧ Below w.heap.size w w' :=
  (Tryd.strconv_Itoa n h0 h1 w hE.2.1).mono fun e w' ⟨he, k, os, hw⟩ => ⟨he, by rw [hw]; exact below_grow w k os⟩
theorem FormatInt (n : Int) (h0 : -9223372036854775808 ≤ n) (h1 : n ≤ 9223372036854775807) (w : World) (hE : Env w) :
    Calls Tryd.prog 43 #[.int .i64 n, .int .i64 10] w fun e w' => e = .returned (.string ⟨(Lib.itoa n).toArray⟩) ∧ Below w.heap.size w w' :=
  (Tryd.strconv_FormatInt_10 n h0 h1 w hE.2.1).mono fun e w' ⟨he, k, os, hw⟩ => ⟨he, by rw [hw]; exact below_grow w k os⟩

theorem as_ss (s : ByteArray) (w : World) : (Instr.typeAssert (.iface 9 (.string s)) 20 9 true).run Tryd.prog w = .ok (.tuple #[.string s, .bool true]) w := by kernel_rfl
theorem as_is (n : Int) (w : World) : (Instr.typeAssert (.iface 3 (.int .i64 n)) 20 9 true).run Tryd.prog w = .ok (.tuple #[.string ⟨#[]⟩, .bool false]) w := by kernel_rfl
theorem as_ii (n : Int) (w : World) : (Instr.typeAssert (.iface 3 (.int .i64 n)) 20 3 true).run Tryd.prog w = .ok (.tuple #[.int .i64 n, .bool true]) w := by kernel_rfl
theorem as_ls (n : Int) (w : World) : (Instr.typeAssert (.iface 2 (.int .i64 n)) 20 9 true).run Tryd.prog w = .ok (.tuple #[.string ⟨#[]⟩, .bool false]) w := by kernel_rfl
theorem as_li (n : Int) (w : World) : (Instr.typeAssert (.iface 2 (.int .i64 n)) 20 3 true).run Tryd.prog w = .ok (.tuple #[.int .i64 0, .bool false]) w := by kernel_rfl
theorem as_ll (n : Int) (w : World) : (Instr.typeAssert (.iface 2 (.int .i64 n)) 20 2 true).run Tryd.prog w = .ok (.tuple #[.int .i64 n, .bool true]) w := by kernel_rfl

set_option maxHeartbeats 2000000 in
set_option maxRecDepth 100000 in
theorem joined (b off c : Nat) (l : List Item) (w : World) (hE : Env w) (hc : ∀ i x, l[i]? = some x → w.cell? ⟨b, off + i, none⟩ = some (itemV x)) (hb : b < w.heap.size) (hok : ∀ x ∈ l, itemOk x) (hn : l.length ≤ 1000000) (hlen : (itemsB l).length ≤ 140737488355328) :
    Calls Tryd.prog 27 #[.slice (some ⟨b, off, none⟩) l.length c] w fun e w' => e = .returned (.string ⟨(itemsB l).toArray⟩) ∧ Below w.heap.size w w' := by
  have hI0 : Bld.Is w.heap.size w.heap.size (Lib.byteCells []) (w.alloc (.cells #[.pointer none, .slice none 0 0] 76)) := Lib.IsBuilderF.of (Lib.fresh_isBuilder _ _ w)
  have hB0 : Below w.heap.size w (w.alloc (.cells #[.pointer none, .slice none 0 0] 76)) := (Below.refl _ _).alloc (Nat.le_refl _) _
  have HI := Lib.hid hI0
  have HB := Lib.hid hB0
  have HE := Lib.hid hE
  have HC := Lib.hid hc
  have HOK := Lib.hid hok
  clear hI0 hB0 hE hc hok
  have ass := as_ss
  have ais := as_is
  have aii := as_ii
  have als := as_ls
  have ali := as_li
  have all := as_ll
  go_enter Tryd.func27, Tryd.ntmps27
  go_wp2_with fail
  go_loopw [11] (fun i wr => ∃ k : Nat, i = .int .i64 k ∧ k ≤ l.length ∧ JRel w l k wr) (fun i _ => l.length - (intOf i).toNat)
  case atStart => exact ⟨0, rfl, Nat.zero_le _, HI.out, HB.out⟩
  case round =>
    clear HI HB
    obtain ⟨k, rfl, hk, hI, hB⟩ := hrel
    have HI := Lib.hid hI
    have HB := Lib.hid hB
    have hbw := hB.size
    clear hI
    by_cases hlt : k < l.length
    · obtain ⟨x, hx⟩ : ∃ x, l[k]? = some x := ⟨l[k], List.getElem?_eq_getElem hlt⟩
      have hcx := HC.out k x hx
      rw [← hB.cell (p := ⟨b, off + k, none⟩) hb] at hcx
      have hlt' : (k : Int) < l.length := by omega
      have hk0 : (0 : Int) ≤ k := by omega
      have hsu := itemsB_succ l k x hx
      have hle := itemsB_le l (k + 1)
      rw [hsu, List.length_append] at hle
      have hokx := HOK.out x (List.mem_of_getElem? hx)
      have HSU := Lib.hid hsu
      clear hB hx hsu
      have hcat : ∀ t : ByteArray, Lib.byteCells (itemsB (l.take k)) ++ Lib.strCells t = Lib.byteCells (itemsB (l.take k) ++ t.data.toList) := by
        intro t
        unfold Lib.byteCells Lib.strCells
        rw [List.map_append]
      have HCAT := Lib.hid hcat
      clear hcat
      rcases x with t | ⟨_ | _, n⟩
      · simp only [itemV] at hcx
        simp only [itemB, size_data] at hle HSU
        go_wp2_with fail
        refine (Bld.WriteString w.heap.size w.heap.size _ t _ HI.out (by rw [Lib.byteCells_length]; omega) hbw).mono ?_
        rintro e w2 ⟨rfl, h2, b2, _⟩
        rw [HCAT.out, ← HSU.out] at h2
        have H2 := Lib.hid h2
        have B2 := Lib.hid (HB.out.trans b2)
        clear h2 b2
        dsimp only
        go_wp2_with fail
        refine ⟨⟨k + 1, by simp, by omega, .inr H2.out, B2.out⟩, by simp [intOf]; omega⟩
      · simp only [itemV] at hcx
        simp only [itemB] at hle HSU
        simp only [itemOk] at hokx
        have hil := itoa_len n hokx.1 hokx.2
        go_wp2_with fail
        refine (Itoa n hokx.1 hokx.2 _ (HE.out.below HB.out)).mono ?_
        rintro e w1 ⟨rfl, b1⟩
        have hts : (⟨(Lib.itoa n).toArray⟩ : ByteArray).size = (Lib.itoa n).length := by simp [ByteArray.size]
        have htd : (⟨(Lib.itoa n).toArray⟩ : ByteArray).data.toList = Lib.itoa n := rfl
        rw [← htd] at HSU
        obtain ⟨t, hti⟩ : ∃ t : ByteArray, (⟨(Lib.itoa n).toArray⟩ : ByteArray) = t := ⟨_, rfl⟩
        rw [hti] at hts htd HSU ⊢
        have HI1 := Lib.hid (is_below HI.out b1)
        have HB1 := Lib.hid (HB.out.trans (b1.mono hbw))
        have hbw1 := HB1.out.size
        have htl : Lib.itoa n = t.data.toList := htd.symm
        have hts2 : t.size ≤ 21 := by rw [hts]; exact hil
        have hlk : (itemsB (l.take k)).length + t.size ≤ 140737488355328 := by rw [hts]; omega
        clear b1 hti htd hts htl hil hle
        dsimp only
        go_wp2_with fail
        refine (Bld.WriteString w.heap.size w.heap.size _ t _ HI1.out (by rw [Lib.byteCells_length]; exact hlk) hbw1).mono ?_
        rintro e w2 ⟨rfl, h2, b2, _⟩
        rw [HCAT.out, ← HSU.out] at h2
        have H2 := Lib.hid h2
        have B2 := Lib.hid (HB1.out.trans b2)
        clear h2 b2
        dsimp only
        go_wp2_with fail
        refine ⟨⟨k + 1, by simp, by omega, .inr H2.out, B2.out⟩, by simp [intOf]; omega⟩
      · simp only [itemV] at hcx
        simp only [itemB] at hle HSU
        simp only [itemOk] at hokx
        have hil := itoa_len n hokx.1 hokx.2
        go_wp2_with fail
        refine (FormatInt n hokx.1 hokx.2 _ (HE.out.below HB.out)).mono ?_
        rintro e w1 ⟨rfl, b1⟩
        have hts : (⟨(Lib.itoa n).toArray⟩ : ByteArray).size = (Lib.itoa n).length := by simp [ByteArray.size]
        have htd : (⟨(Lib.itoa n).toArray⟩ : ByteArray).data.toList = Lib.itoa n := rfl
        rw [← htd] at HSU
        obtain ⟨t, hti⟩ : ∃ t : ByteArray, (⟨(Lib.itoa n).toArray⟩ : ByteArray) = t := ⟨_, rfl⟩
        rw [hti] at hts htd HSU ⊢
        have HI1 := Lib.hid (is_below HI.out b1)
        have HB1 := Lib.hid (HB.out.trans (b1.mono hbw))
        have hbw1 := HB1.out.size
        have htl : Lib.itoa n = t.data.toList := htd.symm
        have hts2 : t.size ≤ 21 := by rw [hts]; exact hil
        have hlk : (itemsB (l.take k)).length + t.size ≤ 140737488355328 := by rw [hts]; omega
        clear b1 hti htd hts htl hil hle
        dsimp only
        go_wp2_with fail
        refine (Bld.WriteString w.heap.size w.heap.size _ t _ HI1.out (by rw [Lib.byteCells_length]; exact hlk) hbw1).mono ?_
        rintro e w2 ⟨rfl, h2, b2, _⟩
        rw [HCAT.out, ← HSU.out] at h2
        have H2 := Lib.hid h2
        have B2 := Lib.hid (HB1.out.trans b2)
        clear h2 b2
        dsimp only
        go_wp2_with fail
        refine ⟨⟨k + 1, by simp, by omega, .inr H2.out, B2.out⟩, by simp [intOf]; omega⟩
    · obtain rfl : k = l.length := by omega
      rw [List.take_length] at HI
      go_wp2_with fail
      refine (Tryd.Builder_String_any_k w.heap.size w.heap.size (itemsB l) _ HI.out hbw).mono ?_
      rintro e w4 ⟨rfl, _, b4, _⟩
      dsimp only
      go_wp2
      go_ret
      exact ⟨rfl, HB.out.trans b4⟩
end Shw
end Go.Proofs.YthamcklkmchkiaaDoor
