/-
  DERIVED. THE STATEMENT ShowNumbers, WALKED.
-/
import Derived.Test.YthamcklkmchkiaaDoorShAlive
import Derived.Test.YthamcklkmchkiaaDoorShPlain
namespace Go.Proofs.YthamcklkmchkiaaDoor
open Go.RowKit
namespace Shw
open Gl Glw Sh

def nmV (n : Int) : VN := ⟨0, ⟨#[]⟩, ⟨#[]⟩, n, 0, none, 0, 0, none, 0, 0⟩
theorem nm_Value (n : Int) (h0 : -9223372036854775808 ≤ n) (h1 : n ≤ 9223372036854775807) (w : World) (hE : Env w) :
    Calls Tryd.prog 17 #[.slice (some ⟨w.heap.size, 0, none⟩) 1 1] (w.alloc (.cells (vnsC [nmV n]).toArray 38)) fun e w' => e = .returned (.string ⟨(Lib.itoa n).toArray⟩) ∧ Below w.heap.size w w' := by
  have hb : Below w.heap.size w (w.alloc (.cells (vnsC [nmV n]).toArray 38)) := (Below.refl _ _).alloc (Nat.le_refl _) _
  refine (Value w.heap.size 0 1 [nmV n] 1 (Lib.itoa n) 1 ?_ _ (RdV_new w [nmV n] _) (hE.below hb) ?_ (by simp)).mono ?_
  · simp [showF, nmV]
  · intro x hx
    rw [List.mem_singleton.1 hx]
    exact ⟨h0, h1, Nat.zero_le _, Nat.zero_le _⟩
  · rintro e w' ⟨rfl, b⟩
    exact ⟨rfl, hb.trans (b.mono hb.size)⟩

set_option maxHeartbeats 4000000 in
set_option maxRecDepth 100000 in
theorem law_numbers (a : Int) (ha : -9223372036854775808 ≤ a ∧ a ≤ 9223372036854775807) (b : Int) (hb : -9223372036854775808 ≤ b ∧ b ≤ 9223372036854775807) (w : World) (hE : Env w) :
    Calls Tryd.prog 7 #[.int .i64 a, .int .i64 b] w fun en w' => en = .returned (.bool true) ∧ Below w.heap.size w w' := by
  have hVa := fun w hE => nm_Value a ha.1 ha.2 w hE
  have hVb := fun w hE => nm_Value b hb.1 hb.2 w hE
  have hO1 := fun w hE => OutcomeElse (.slice none 0 0) 1 a (by decide) ha.1 ha.2 w hE
  have hO2 := fun w hE => OutcomeElse (.slice none 0 0) 2 a (by decide) ha.1 ha.2 w hE
  have hO3 := fun w hE => OutcomeElse (.slice none 0 0) 3 0 (by decide) (by decide) (by decide) w hE
  have ho1 : outL [] 1 a = [98, 108, 97, 109, 101, 32] ++ Lib.itoa a := rfl
  have ho2 : outL [] 2 a = [116, 114, 97, 112, 32] ++ Lib.itoa a := rfl
  have ho3 : outL [] 3 0 = [115, 112, 101, 110, 116] := rfl
  rw [ho1] at hO1
  rw [ho2] at hO2
  rw [ho3] at hO3
  have hla := itoa_len a ha.1 ha.2
  have hat := itoa_at a
  have hpos : 0 < (Lib.itoa a).length := List.length_pos_iff.2 (itoa_ne a)
  have heq : ((⟨(Lib.itoa a).toArray⟩ : ByteArray) = ⟨(Lib.itoa b).toArray⟩) ↔ a = b := ⟨fun h => itoa_inj (by simpa using congrArg (fun s : ByteArray => s.data.toList) h), fun h => by rw [h]⟩
  obtain ⟨x, hx⟩ : ∃ x : ByteArray, (⟨(Lib.itoa a).toArray⟩ : ByteArray) = x := ⟨_, rfl⟩
  obtain ⟨y, hy⟩ : ∃ y : ByteArray, (⟨(Lib.itoa b).toArray⟩ : ByteArray) = y := ⟨_, rfl⟩
  have hxl : Lib.itoa a = x.data.toList := by rw [← hx]
  have e1 : (⟨([98, 108, 97, 109, 101, 32] ++ Lib.itoa a).toArray⟩ : ByteArray) = ⟨#[98, 108, 97, 109, 101, 32]⟩ ++ x := of_data (by rw [← hx])
  have e2 : (⟨([116, 114, 97, 112, 32] ++ Lib.itoa a).toArray⟩ : ByteArray) = ⟨#[116, 114, 97, 112, 32]⟩ ++ x := of_data (by rw [← hx])
  rw [e1] at hO1
  rw [e2] at hO2
  rw [hx] at hVa heq
  rw [hy] at hVb heq
  rw [hxl, size_data] at hla hpos
  rw [hxl] at hat
  clear hx hy hxl e1 e2 ho1 ho2 ho3
  obtain ⟨B, qx, qa⟩ : ∃ B : Bool, (x.toList == y.toList) = B ∧ (a == b) = B := by
    by_cases h : a = b
    · exact ⟨true, by rw [heq.2 h]; simp, beq_iff_eq.2 h⟩
    · exact ⟨false, by rw [beq_eq_false_iff_ne, toList_data, toList_data]; intro e; exact h (heq.1 (by rw [of_data (b := x) rfl, of_data (b := y) rfl, e])), beq_eq_false_iff_ne.2 h⟩
  have c1 := fits_cat ⟨#[98, 108, 97, 109, 101, 32]⟩ x (by have : (⟨#[98, 108, 97, 109, 101, 32]⟩ : ByteArray).size = 6 := rfl; omega)
  have c2 := fits_cat ⟨#[116, 114, 97, 112, 32]⟩ x (by have : (⟨#[116, 114, 97, 112, 32]⟩ : ByteArray).size = 5 := rfl; omega)
  have HVa := Lib.hid hVa
  have HVb := Lib.hid hVb
  have HO1 := Lib.hid hO1
  have HO2 := Lib.hid hO2
  have HO3 := Lib.hid hO3
  have HAT := Lib.hid hat
  have HE := Lib.hid hE
  clear hVa hVb hO1 hO2 hO3 hat heq hE
  go_enter Tryd.func7, Tryd.ntmps7
  go_wp2_with fail
  refine (HVa.out _ HE.out).mono ?_
  rintro e w1 ⟨rfl, b1⟩
  have HB1 := Lib.hid b1
  clear b1
  dsimp only
  go_wp2_with fail
  refine (HVb.out _ (HE.out.below HB1.out)).mono ?_
  rintro e w2 ⟨rfl, b2⟩
  have HB2 := Lib.hid (HB1.out.trans (b2.mono HB1.out.size))
  clear b2 HB1
  dsimp only
  go_wp2
  go_loopw [7] (fun i wr => (∃ k : Nat, i = .int .i64 k ∧ k ≤ x.size) ∧ wr = w2) (fun i _ => x.size - (intOf i).toNat)
  case atStart => exact ⟨⟨0, rfl, Nat.zero_le _⟩, rfl⟩
  case round =>
    obtain ⟨⟨k, rfl, hk⟩, rfl⟩ := hrel
    by_cases hlt : k < x.size
    · have hlt' : (k : Int) < x.size := by omega
      have hk0 : (0 : Int) ≤ k := by omega
      obtain ⟨c, hc⟩ : ∃ c, x.data.toList[k]? = some c := ⟨_, List.getElem?_eq_getElem (by rw [size_data]; exact hlt)⟩
      have hcc := HAT.out k c hc
      have hcx : (x[k]'hlt) = c := by
        have h1 := hc
        rw [List.getElem?_eq_getElem (by rw [size_data]; exact hlt)] at h1
        exact Option.some.inj h1
      obtain ⟨C, hC⟩ : ∃ C : Int, (c.toNat : Int) = C := ⟨_, rfl⟩
      have hgC : (((x[k]'hlt).toNat : Nat) : Int) = C := by rw [hcx, hC]
      have hcc' : (48 ≤ C ∧ C ≤ 57) ∨ (k = 0 ∧ C = 45 ∧ a < 0) := by
        rcases hcc with ⟨h1, h2⟩ | ⟨h1, h2, h3⟩
        · exact .inl (by omega)
        · exact .inr ⟨h1, by rw [← hC, h2]; rfl, h3⟩
      clear hc hcc hcx hC
      rcases hcc' with ⟨h1, h2⟩ | ⟨rfl, rfl, h3⟩
      · go_wp2
        refine ⟨⟨⟨k + 1, by simp, by omega⟩, trivial⟩, by simp [intOf]; omega⟩
      · go_wp2
        refine ⟨⟨⟨1, by simp, by omega⟩, trivial⟩, by simp [intOf]; omega⟩
    · obtain rfl : k = x.size := by omega
      have hlt' : ¬ (x.size : Int) < x.size := by omega
      go_wp2_with fail
      refine (HO1.out _ (HE.out.below HB2.out)).mono ?_
      rintro e w3 ⟨rfl, b3⟩
      have HB3 := Lib.hid (HB2.out.trans (b3.mono HB2.out.size))
      clear b3
      dsimp only
      go_wp2_with fail
      refine (HO2.out _ (HE.out.below HB3.out)).mono ?_
      rintro e w4 ⟨rfl, b4⟩
      have HB4 := Lib.hid (HB3.out.trans (b4.mono HB3.out.size))
      clear b4
      dsimp only
      go_wp2_with fail
      refine (alive _ (HE.out.below HB4.out)).mono ?_
      rintro e w5 ⟨rfl, b5⟩
      have HB5 := Lib.hid (HB4.out.trans (b5.mono HB4.out.size))
      clear b5
      dsimp only
      have hp' : (0 : Int) < x.size := by omega
      go_wp2_with fail
      refine (HO3.out _ (HE.out.below HB5.out)).mono ?_
      rintro e w6 ⟨rfl, b6⟩
      dsimp only
      go_wp2
      go_ret
      exact ⟨rfl, HB5.out.trans (b6.mono HB5.out.size)⟩
end Shw
end Go.Proofs.YthamcklkmchkiaaDoor
