/-
  DERIVED. LAYER 2 (lex): the reader's word, and what kind of token a word is, walked.
-/
import Derived.Test.YtelejpajnemmfaaDoorLxSkip
import Derived.Shelf.Strings.FuncGrows
namespace Go.Proofs.YtelejpajnemmfaaDoor
open Go.RowKit
namespace Lxw
open Gl Lx Glw

theorem idx_word (s : ByteArray) : ∀ (f pos : Nat), s.size ≤ pos + f →
    Lib.idxFuncFrom (fun r => !behindZ r) true s f pos = if ((s.data.toList.drop pos).takeWhile behindB).length = (s.data.toList.drop pos).length then -1 else ((pos + ((s.data.toList.drop pos).takeWhile behindB).length : Nat) : Int)
  | 0, pos, h => by
    rw [List.drop_eq_nil_of_le (by rw [size_data]; omega)]
    rfl
  | f + 1, pos, h => by
    unfold Lib.idxFuncFrom
    by_cases hp : pos < s.size
    · rw [if_pos hp]
      have hd := drop_cons s pos hp
      have hb := behind_rune s pos hp
      by_cases hc : behindB (s.get! pos) = true
      · rw [if_neg (by rw [hb, hc]; decide)]
        rw [step_ascii s pos hp (behind_ascii hc), idx_word s f (pos + 1) (by omega), hd]
        simp only [List.takeWhile_cons, hc, if_true, List.length_cons, Nat.add_right_cancel_iff]
        by_cases he : ((s.data.toList.drop (pos + 1)).takeWhile behindB).length = (s.data.toList.drop (pos + 1)).length
        · rw [if_pos he, if_pos he]
        · rw [if_neg he, if_neg he]; congr 1; omega
      · have hc' : behindB (s.get! pos) = false := Bool.eq_false_iff.2 hc
        rw [if_pos (by rw [hb, hc']; rfl), hd]
        simp [hc']
    · rw [if_neg hp, List.drop_eq_nil_of_le (by rw [size_data]; omega)]
      rfl

theorem word_grows (w : World) : PredGrows Tryd.prog 66 #[] (fun r => !behindZ r) w :=
  fun W x _ _ => (word1 x W).mono fun _ _ ⟨he, hw⟩ => ⟨he, hw ▸ Below.refl _ _⟩
theorem kind_grows (w : World) : PredGrows Tryd.prog 71 #[] (fun r => !inB r 48 57) w :=
  fun W x _ _ => (kind1 x W).mono fun _ _ ⟨he, hw⟩ => ⟨he, hw ▸ Below.refl _ _⟩

theorem wordOf_prefix (l : List UInt8) : l.take (wordOf l).length = wordOf l := by
  unfold wordOf
  conv => lhs; arg 2; rw [← List.takeWhile_append_dropWhile (p := behindB) (l := l)]
  rw [List.take_left]

set_option maxHeartbeats 2000000 in
set_option maxRecDepth 100000 in
theorem word (R : Nat) (s : ByteArray) (pos : Nat) (w : World) (h0 : pos ≤ s.size) (hR : Rd w R s pos) :
    Calls Tryd.prog 38 #[.pointer (some ⟨R, 0, none⟩)] w fun e w' => e = .returned (.string ⟨(wordOf (s.data.toList.drop pos)).toArray⟩) ∧ Below w.heap.size w w' := by
  have c0 := hR.cell0
  have c1 := hR.cell1
  clear hR
  have d1 : (0 : Int) ≤ pos := by omega
  have d2 : (pos : Int) ≤ s.size := by omega
  have hz := Lib.tail_size s pos
  have hzd := ext_tail s pos
  have hix := fun w => Tryd.strings_IndexFunc_grows 66 #[] (enters_of Tryd.func66 (by kernel_rfl) rfl) (fun r => !behindZ r) (s.extract pos s.size) w (word_grows w)
  have hidx := idx_word (s.extract pos s.size) (s.extract pos s.size).size 0 (by omega)
  rw [List.drop_zero, hzd, Nat.zero_add] at hidx
  have hpre := wordOf_prefix (s.data.toList.drop pos)
  have hlen : (wordOf (s.data.toList.drop pos)).length ≤ (s.data.toList.drop pos).length := List.IsPrefix.length_le (List.takeWhile_prefix _)
  have hll : (s.data.toList.drop pos).length = (s.extract pos s.size).size := by rw [← hzd, size_data]
  rw [show Lib.idxFuncFrom (fun r => !behindZ r) true (s.extract pos s.size) (s.extract pos s.size).size 0 = Lib.idxFunc (fun r => !behindZ r) true (s.extract pos s.size) from rfl] at hidx
  obtain ⟨J, hJ⟩ : ∃ J, Lib.idxFunc (fun r => !behindZ r) true (s.extract pos s.size) = J := ⟨_, rfl⟩
  rw [hJ] at hidx hix
  have HIX := Lib.hid hix
  have HZD := Lib.hid hzd
  clear hix hJ hzd hz
  obtain ⟨A, hA⟩ : ∃ A : List UInt8, wordOf (s.data.toList.drop pos) = A := ⟨_, rfl⟩
  rw [show (s.data.toList.drop pos).takeWhile behindB = A from hA] at hidx
  rw [hA] at hpre hlen ⊢
  have HP := Lib.hid hpre
  have HL := Lib.hid hlen
  have HLL := Lib.hid hll
  clear hpre hlen hll hA
  go_enter Tryd.func38, Tryd.ntmps38
  go_wp2
  go_quiet (fail)
  by_cases hfull : A.length = (s.data.toList.drop pos).length
  · rw [if_pos hfull] at hidx
    have hAZ : (⟨A.toArray⟩ : ByteArray) = s.extract pos s.size := by
      have e1 : A = s.data.toList.drop pos := by rw [← HP.out, hfull, List.take_length]
      rw [of_data (b := s.extract pos s.size) (l := A) (by rw [HZD.out, e1])]
    have HAZ := Lib.hid hAZ
    subst hidx
    clear hfull hAZ
    generalize s.extract pos s.size = Z at HIX HZD HLL HAZ ⊢
    go_wp2_with fail
    refine (HIX.out _).mono ?_
    rintro e w1 ⟨rfl, b1⟩
    dsimp only
    go_wp2
    go_ret
    exact ⟨by rw [HAZ.out]; rfl, (below_drewN' (Below.refl _ _) _).trans b1⟩
  · rw [if_neg hfull] at hidx
    have hle : (A.length : Int) ≤ (s.extract pos s.size).size := by have := HL.out; have := HLL.out; omega
    have hAZ : (⟨A.toArray⟩ : ByteArray) = (s.extract pos s.size).extract 0 A.length := by
      rw [of_data (b := (s.extract pos s.size).extract 0 A.length) (l := A) (by rw [ext_data, HZD.out, List.drop_zero, Nat.sub_zero, HP.out])]
    have HAZ := Lib.hid hAZ
    subst hidx
    clear hfull hAZ
    have k0 : (0 : Int) ≤ A.length := by omega
    generalize s.extract pos s.size = Z at HIX HZD HLL hle HAZ ⊢
    generalize A.length = n at HIX hle k0 HL HP HAZ ⊢
    go_wp2_with fail
    refine (HIX.out _).mono ?_
    rintro e w1 ⟨rfl, b1⟩
    dsimp only
    go_wp2
    go_ret
    exact ⟨by rw [HAZ.out]; rfl, (below_drewN' (Below.refl _ _) _).trans b1⟩
end Lxw
end Go.Proofs.YtelejpajnemmfaaDoor
