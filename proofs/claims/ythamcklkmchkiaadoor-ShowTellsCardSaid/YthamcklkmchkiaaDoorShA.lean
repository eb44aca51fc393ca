/-
  DERIVED. LAYER 21 (show): the errors' names, walked: the program's and the reference's.
-/
import Derived.Test.YthamcklkmchkiaaDoorGlRefQuote
import Derived.Test.YthamcklkmchkiaaDoorGlPlace
import Derived.Lib.Hide
import Derived.IntWalk
namespace Go.Proofs.YthamcklkmchkiaaDoor
open Go.RowKit
namespace Sh
/-- The errors' names, as bytes. -/
def namesL : List (List UInt8) := [[111, 107], [97, 114, 103], [102, 111, 114, 109], [108, 97, 114, 103, 101], [100, 101, 101, 112], [110, 97, 109, 101], [110, 111, 110, 101], [101, 120, 105, 115, 116, 115], [99, 121, 99, 108, 101], [116, 121, 112, 101], [102, 117, 101, 108], [109, 97, 110, 121]]
/-- An error's name. -/
def errL (e : Int) : List UInt8 := if 0 ≤ e then (namesL[e.toNat]?).getD [101, 114, 114, 111, 114] else [101, 114, 114, 111, 114]
def namesText : List UInt8 := [111, 107, 32, 97, 114, 103, 32, 102, 111, 114, 109, 32, 108, 97, 114, 103, 101, 32, 100, 101, 101, 112, 32, 110, 97, 109, 101, 32, 110, 111, 110, 101, 32, 101, 120, 105, 115, 116, 115, 32, 99, 121, 99, 108, 101, 32, 116, 121, 112, 101, 32, 102, 117, 101, 108, 32, 109, 97, 110, 121]
theorem fields_names : Lib.fields namesText = namesL := by decide +kernel
theorem ascii_names : ∀ b ∈ namesText, b.toNat < 128 := by decide
theorem names_len : ∀ x ∈ namesL, x.length ≤ 6 := by decide
theorem errL_len (e : Int) : (errL e).length ≤ 6 := by
  unfold errL
  by_cases h : 0 ≤ e
  · rw [if_pos h]
    cases hn : namesL[e.toNat]? with
    | none => decide
    | some x => exact names_len x (List.mem_of_getElem? hn)
  · rw [if_neg h]; decide
end Sh
namespace Shw
open Gl Glw Sh

/-- What the functions of show ask of the world: the tables of unicode/utf8, of internal/strconv, of strings. -/
def Env (w : World) : Prop := Glw.Tabs w ∧ Lib.TabIs Tryd.prog w "internal/strconv.uint64pow10" .u64 Lib.pow10Tab ∧ Lib.TabIs Tryd.prog w "strings.asciiSpace" .u8 Lib.asciiSpaceTab
theorem Env.tabs {w : World} (h : Env w) : Glw.Tabs w := h.1

def strCells (l : List (List UInt8)) : Array Value := (l.map fun x => Value.string ⟨x.toArray⟩).toArray
theorem str_cell (w : World) (l : List (List UInt8)) (i : Nat) (t : TypeId) (h : i < l.length) : (w.alloc (.cells (strCells l) t)).cell? ⟨w.heap.size, i, none⟩ = some (.string ⟨(l[i]).toArray⟩) := by
  rw [World.cell?_alloc_at _ _ _ _ rfl]
  simp [strCells, h]

set_option maxHeartbeats 1000000 in
set_option maxRecDepth 1000000 in
theorem names (w : World) (hE : Env w) :
    Calls Tryd.prog 25 #[] w fun e w' => e = .returned (.slice (some ⟨w.heap.size, 0, none⟩) 12 12) ∧ w' = w.alloc (.cells (strCells namesL) 9) := by
  have hF := Tryd.strings_Fields ⟨namesText.toArray⟩ w (by decide) (fun j b hb => ascii_names b (List.mem_of_getElem? hb)) hE.2.2
  rw [show Lib.fields (⟨namesText.toArray⟩ : ByteArray).data.toList = namesL from fields_names] at hF
  have HF := Lib.hid hF
  clear hF
  go_enter Tryd.func25, Tryd.ntmps25
  go_wp2_with fail
  refine HF.out.mono ?_
  rintro e w' ⟨rfl, rfl⟩
  dsimp only
  go_wp2
  go_ret
  exact ⟨rfl, rfl⟩

set_option maxHeartbeats 1000000 in
set_option maxRecDepth 1000000 in
theorem Error (n : Int) (w : World) (hE : Env w) (h0 : -9223372036854775808 ≤ n) (h1 : n ≤ 9223372036854775807) :
    Calls Tryd.prog 10 #[.int .i64 n] w fun e w' => e = .returned (.string ⟨(errL n).toArray⟩) ∧ Below w.heap.size w w' := by
  have HN := Lib.hid (names w hE)
  have b1 : Below w.heap.size w (w.alloc (.cells (strCells namesL) 9)) := (Below.refl _ _).alloc (Nat.le_refl _) _
  by_cases hn : 0 ≤ n ∧ n < 12
  · obtain ⟨k, rfl⟩ := Int.eq_ofNat_of_zero_le hn.1
    have hk : k < namesL.length := by show k < 12; omega
    have hc := str_cell w namesL k 9 hk
    have he : errL (k : Int) = namesL[k]'hk := by
      unfold errL
      rw [if_pos hn.1, Int.toNat_natCast, List.getElem?_eq_getElem hk]; rfl
    rw [he]
    have hn1 : (k : Int) < 12 := hn.2
    have hn2 : (0 : Int) ≤ k := hn.1
    obtain ⟨y, hy⟩ : ∃ y : ByteArray, ⟨(namesL[k]'hk).toArray⟩ = y := ⟨_, rfl⟩
    rw [hy] at hc ⊢
    obtain ⟨W1, hW1⟩ : ∃ W1, w.alloc (.cells (strCells namesL) 9) = W1 := ⟨_, rfl⟩
    have HN2 : RowKit.Hid (Calls Tryd.prog 25 #[] w fun e w' => e = .returned (.slice (some ⟨w.heap.size, 0, none⟩) 12 12) ∧ w' = W1) := by rw [← hW1]; exact HN
    rw [hW1] at hc b1
    clear hn hy he hW1 HN
    go_enter Tryd.func10, Tryd.ntmps10
    go_wp2_with fail
    refine HN2.out.mono ?_
    rintro e w' ⟨rfl, rfl⟩
    dsimp only
    go_wp2
    go_ret
    exact ⟨rfl, b1⟩
  · have he : errL n = [101, 114, 114, 111, 114] := by
      unfold errL
      by_cases h : 0 ≤ n
      · rw [if_pos h, List.getElem?_eq_none (by show 12 ≤ n.toNat; omega)]; rfl
      · rw [if_neg h]
    rw [he]
    have HB := Lib.hid b1
    clear he b1
    by_cases h : 0 ≤ n
    · have hn1 : ¬ n < 12 := by omega
      go_enter Tryd.func10, Tryd.ntmps10
      go_wp2_with fail
      refine HN.out.mono ?_
      rintro e w' ⟨rfl, rfl⟩
      dsimp only
      go_wp2
      go_ret
      exact ⟨rfl, HB.out⟩
    · go_enter Tryd.func10, Tryd.ntmps10
      go_wp2_with fail
      refine HN.out.mono ?_
      rintro e w' ⟨rfl, rfl⟩
      dsimp only
      go_wp2
      go_ret
      exact ⟨rfl, HB.out⟩

set_option maxHeartbeats 1000000 in
set_option maxRecDepth 1000000 in
theorem refError (n : Int) (w : World) (h0 : -9223372036854775808 ≤ n) (h1 : n ≤ 9223372036854775807) :
    Calls Tryd.prog 11 #[.int .i64 n] w fun e w' => e = .returned (.string ⟨(errL n).toArray⟩) ∧ Below w.heap.size w w' := by
  have b1 : Below w.heap.size w (w.alloc (.cells (strCells namesL) 9)) := (Below.refl _ _).alloc (Nat.le_refl _) _
  have hcell := fun i h => str_cell w namesL i 9 h
  have hcs : (#[.string ⟨#[111, 107]⟩, .string ⟨#[97, 114, 103]⟩, .string ⟨#[102, 111, 114, 109]⟩, .string ⟨#[108, 97, 114, 103, 101]⟩, .string ⟨#[100, 101, 101, 112]⟩, .string ⟨#[110, 97, 109, 101]⟩, .string ⟨#[110, 111, 110, 101]⟩, .string ⟨#[101, 120, 105, 115, 116, 115]⟩, .string ⟨#[99, 121, 99, 108, 101]⟩, .string ⟨#[116, 121, 112, 101]⟩, .string ⟨#[102, 117, 101, 108]⟩, .string ⟨#[109, 97, 110, 121]⟩] : Array Value) = strCells namesL := rfl
  have HCS := Lib.hid hcs
  have HC := Lib.hid hcell
  have HB := Lib.hid b1
  clear b1 hcell hcs
  go_enter Tryd.func11, Tryd.ntmps11
  go_wp2_with fail
  rw [HCS.out]
  go_loop [4] (fun i => ∃ k : Nat, i = .int .i64 k ∧ k ≤ 12 ∧ ∀ j : Nat, j < k → n ≠ j) (fun i => 12 - (intOf i).toNat)
  case atStart => exact ⟨0, rfl, Nat.zero_le _, fun j h => by omega⟩
  case round =>
    obtain ⟨k, rfl, hk, hall⟩ := hrel
    have HALL := Lib.hid hall
    clear hall
    by_cases hlt : k < 12
    · have hlt' : (k : Int) < 12 := by omega
      have hk0 : (0 : Int) ≤ k := by omega
      by_cases he : n = k
      · subst he
        have hk2 : k < namesL.length := hlt
        have hc := HC.out k hk2
        have hee : errL (k : Int) = namesL[k]'hk2 := by
          unfold errL
          rw [if_pos hk0, Int.toNat_natCast, List.getElem?_eq_getElem hk2]; rfl
        obtain ⟨y, hy⟩ : ∃ y : ByteArray, ⟨(namesL[k]'hk2).toArray⟩ = y := ⟨_, rfl⟩
        rw [hy] at hc
        have HEE : RowKit.Hid ((⟨(errL (k : Int)).toArray⟩ : ByteArray) = y) := by rw [hee]; exact hy
        clear hee hy
        go_wp2
        go_ret
        exact ⟨by rw [HEE.out]; rfl, HB.out⟩
      · have q : (n == (k : Int)) = false := by rw [beq_eq_false_iff_ne]; exact he
        go_wp2
        refine ⟨⟨k + 1, by simp, by omega, fun j hj => ?_⟩, by simp [intOf]; omega⟩
        by_cases e : j = k
        · subst e; exact he
        · exact HALL.out j (by omega)
    · obtain rfl : k = 12 := by omega
      have hee : errL n = [101, 114, 114, 111, 114] := by
        unfold errL
        by_cases h : 0 ≤ n
        · rw [if_pos h, List.getElem?_eq_none]; rfl
          show 12 ≤ n.toNat
          rcases Nat.lt_or_ge n.toNat 12 with hl | hl
          · exact absurd (show n = (n.toNat : Int) by omega) (HALL.out n.toNat hl)
          · exact hl
        · rw [if_neg h]
      have HEE := Lib.hid hee
      clear hee
      go_wp2
      go_ret
      exact ⟨by rw [HEE.out]; rfl, HB.out⟩
end Shw
end Go.Proofs.YthamcklkmchkiaaDoor
