/-
  DERIVED. THE STATEMENT LexCuts, WALKED.
-/
import Derived.Test.YtelejpajnemmfaaDoorLxAlive
import Derived.Test.YtelejpajnemmfaaDoorLxPure3
namespace Go.Proofs.YtelejpajnemmfaaDoor
open Go.RowKit
namespace Lxw
open Gl Lx Glw


set_option maxHeartbeats 4000000 in
set_option maxRecDepth 100000 in
theorem cuts_bad (a b : ByteArray) (w : World) (hE : Env w) (ha' : (a.size : Int) ≤ 1500) (hb' : (b.size : Int) ≤ 1500) (hbad : ∀ ts us, tokL 0 a.data.toList = .inr ts → tokL 0 b.data.toList = .inr us → False) :
    Calls Tryd.prog 7 #[.string a, .string b] w fun e w' => e = .returned (.bool true) ∧ Below w.heap.size w w' := by
  have HE := Lib.hid hE
  clear hE
  have ha : a.size ≤ 100000 := by omega
  have hb : b.size ≤ 100000 := by omega
  have h1 : (⟨#[10]⟩ : ByteArray).size = 1 := rfl
  have hc : (a ++ ⟨#[10]⟩ ++ b : ByteArray).size ≤ 100000 := by rw [ByteArray.size_append, ByteArray.size_append, h1]; omega
  have t1 : (9223372036854775807 < a.size + (⟨#[10]⟩ : ByteArray).size) = False := by rw [h1]; simp; omega
  have t2 : (9223372036854775807 < (a ++ ⟨#[10]⟩ : ByteArray).size + b.size) = False := by rw [ByteArray.size_append, h1]; simp; omega
  clear h1
  obtain ⟨A, hA⟩ : ∃ A, tokL 0 a.data.toList = A := ⟨_, rfl⟩
  obtain ⟨B, hB⟩ : ∃ B, tokL 0 b.data.toList = B := ⟨_, rfl⟩
  obtain ⟨C, hC⟩ : ∃ C, tokL 0 (a ++ ⟨#[10]⟩ ++ b : ByteArray).data.toList = C := ⟨_, rfl⟩
  have HA := Lib.hid hA
  have HB := Lib.hid hB
  have HC := Lib.hid hC
  have hbad2 : ∀ ts us, A = .inr ts → B = .inr us → False := fun ts us h1 h2 => hbad ts us (hA.trans h1) (hB.trans h2)
  clear hA hB hC hbad
  rcases A with p | ts
  · rcases B with q | us
    · rcases C with r | ns
      · clear hbad2
        go_enter Tryd.func7, Tryd.ntmps7
        go_wp2_with fail
        refine (Tokens_no a _ ha HE.out _ HA.out).mono ?_
        rintro e w1 ⟨rfl, b1⟩
        have HB1 := Lib.hid b1
        clear b1
        dsimp only
        go_wp2_with fail
        refine (Tokens_no b _ hb (HE.out.below HB1.out) _ HB.out).mono ?_
        rintro e w2 ⟨rfl, b2⟩
        have HB2 := Lib.hid (HB1.out.trans (b2.mono HB1.out.size))
        clear b2
        dsimp only
        go_wp2_with fail
        generalize (a ++ ⟨#[10]⟩ ++ b : ByteArray) = X at hc HC ⊢
        refine (Tokens_no X _ hc (HE.out.below HB2.out) _ HC.out).mono ?_
        rintro e w3 ⟨rfl, b3⟩
        have HB3 := Lib.hid (HB2.out.trans (b3.mono HB2.out.size))
        clear b3
        dsimp only
        go_wp2_with fail
        refine (alive _ (HE.out.below HB3.out)).mono ?_
        rintro e w4 ⟨rfl, b4⟩
        dsimp only
        go_wp2
        go_ret
        exact ⟨rfl, HB3.out.trans (b4.mono HB3.out.size)⟩
      · clear hbad2
        have hnp : 0 < ns.length := List.length_pos_iff.2 (tokL_ne HC.out)
        have hnp' : (0 : Int) < ns.length := by omega
        go_enter Tryd.func7, Tryd.ntmps7
        go_wp2_with fail
        refine (Tokens_no a _ ha HE.out _ HA.out).mono ?_
        rintro e w1 ⟨rfl, b1⟩
        have HB1 := Lib.hid b1
        clear b1
        dsimp only
        go_wp2_with fail
        refine (Tokens_no b _ hb (HE.out.below HB1.out) _ HB.out).mono ?_
        rintro e w2 ⟨rfl, b2⟩
        have HB2 := Lib.hid (HB1.out.trans (b2.mono HB1.out.size))
        clear b2
        dsimp only
        go_wp2_with fail
        generalize (a ++ ⟨#[10]⟩ ++ b : ByteArray) = X at hc HC ⊢
        refine (Tokens_ok X _ hc (HE.out.below HB2.out) _ HC.out).mono ?_
        rintro e w3 ⟨g3, cap3, rfl, hg3, hR3, b3⟩
        have HR3 := Lib.hid hR3
        have HB3 := Lib.hid (HB2.out.trans (b3.mono HB2.out.size))
        clear b3 hR3 hg3
        dsimp only
        go_wp2_with fail
        refine (alive _ (HE.out.below HB3.out)).mono ?_
        rintro e w4 ⟨rfl, b4⟩
        dsimp only
        go_wp2
        go_ret
        exact ⟨rfl, HB3.out.trans (b4.mono HB3.out.size)⟩
    · rcases C with r | ns
      · clear hbad2
        go_enter Tryd.func7, Tryd.ntmps7
        go_wp2_with fail
        refine (Tokens_no a _ ha HE.out _ HA.out).mono ?_
        rintro e w1 ⟨rfl, b1⟩
        have HB1 := Lib.hid b1
        clear b1
        dsimp only
        go_wp2_with fail
        refine (Tokens_ok b _ hb (HE.out.below HB1.out) _ HB.out).mono ?_
        rintro e w2 ⟨g2, cap2, rfl, hg2, hR2, b2⟩
        have HR2 := Lib.hid hR2
        have HB2 := Lib.hid (HB1.out.trans (b2.mono HB1.out.size))
        clear b2 hR2 hg2
        dsimp only
        go_wp2_with fail
        generalize (a ++ ⟨#[10]⟩ ++ b : ByteArray) = X at hc HC ⊢
        refine (Tokens_no X _ hc (HE.out.below HB2.out) _ HC.out).mono ?_
        rintro e w3 ⟨rfl, b3⟩
        have HB3 := Lib.hid (HB2.out.trans (b3.mono HB2.out.size))
        clear b3
        dsimp only
        go_wp2_with fail
        refine (alive _ (HE.out.below HB3.out)).mono ?_
        rintro e w4 ⟨rfl, b4⟩
        dsimp only
        go_wp2
        go_ret
        exact ⟨rfl, HB3.out.trans (b4.mono HB3.out.size)⟩
      · clear hbad2
        have hnp : 0 < ns.length := List.length_pos_iff.2 (tokL_ne HC.out)
        have hnp' : (0 : Int) < ns.length := by omega
        go_enter Tryd.func7, Tryd.ntmps7
        go_wp2_with fail
        refine (Tokens_no a _ ha HE.out _ HA.out).mono ?_
        rintro e w1 ⟨rfl, b1⟩
        have HB1 := Lib.hid b1
        clear b1
        dsimp only
        go_wp2_with fail
        refine (Tokens_ok b _ hb (HE.out.below HB1.out) _ HB.out).mono ?_
        rintro e w2 ⟨g2, cap2, rfl, hg2, hR2, b2⟩
        have HR2 := Lib.hid hR2
        have HB2 := Lib.hid (HB1.out.trans (b2.mono HB1.out.size))
        clear b2 hR2 hg2
        dsimp only
        go_wp2_with fail
        generalize (a ++ ⟨#[10]⟩ ++ b : ByteArray) = X at hc HC ⊢
        refine (Tokens_ok X _ hc (HE.out.below HB2.out) _ HC.out).mono ?_
        rintro e w3 ⟨g3, cap3, rfl, hg3, hR3, b3⟩
        have HR3 := Lib.hid hR3
        have HB3 := Lib.hid (HB2.out.trans (b3.mono HB2.out.size))
        clear b3 hR3 hg3
        dsimp only
        go_wp2_with fail
        refine (alive _ (HE.out.below HB3.out)).mono ?_
        rintro e w4 ⟨rfl, b4⟩
        dsimp only
        go_wp2
        go_ret
        exact ⟨rfl, HB3.out.trans (b4.mono HB3.out.size)⟩
  · rcases B with q | us
    · rcases C with r | ns
      · clear hbad2
        go_enter Tryd.func7, Tryd.ntmps7
        go_wp2_with fail
        refine (Tokens_ok a _ ha HE.out _ HA.out).mono ?_
        rintro e w1 ⟨g1, cap1, rfl, hg1, hR1, b1⟩
        have HR1 := Lib.hid hR1
        have HB1 := Lib.hid b1
        clear b1 hR1 hg1
        dsimp only
        go_wp2_with fail
        refine (Tokens_no b _ hb (HE.out.below HB1.out) _ HB.out).mono ?_
        rintro e w2 ⟨rfl, b2⟩
        have HB2 := Lib.hid (HB1.out.trans (b2.mono HB1.out.size))
        clear b2
        dsimp only
        go_wp2_with fail
        generalize (a ++ ⟨#[10]⟩ ++ b : ByteArray) = X at hc HC ⊢
        refine (Tokens_no X _ hc (HE.out.below HB2.out) _ HC.out).mono ?_
        rintro e w3 ⟨rfl, b3⟩
        have HB3 := Lib.hid (HB2.out.trans (b3.mono HB2.out.size))
        clear b3
        dsimp only
        go_wp2_with fail
        refine (alive _ (HE.out.below HB3.out)).mono ?_
        rintro e w4 ⟨rfl, b4⟩
        dsimp only
        go_wp2
        go_ret
        exact ⟨rfl, HB3.out.trans (b4.mono HB3.out.size)⟩
      · clear hbad2
        have hnp : 0 < ns.length := List.length_pos_iff.2 (tokL_ne HC.out)
        have hnp' : (0 : Int) < ns.length := by omega
        go_enter Tryd.func7, Tryd.ntmps7
        go_wp2_with fail
        refine (Tokens_ok a _ ha HE.out _ HA.out).mono ?_
        rintro e w1 ⟨g1, cap1, rfl, hg1, hR1, b1⟩
        have HR1 := Lib.hid hR1
        have HB1 := Lib.hid b1
        clear b1 hR1 hg1
        dsimp only
        go_wp2_with fail
        refine (Tokens_no b _ hb (HE.out.below HB1.out) _ HB.out).mono ?_
        rintro e w2 ⟨rfl, b2⟩
        have HB2 := Lib.hid (HB1.out.trans (b2.mono HB1.out.size))
        clear b2
        dsimp only
        go_wp2_with fail
        generalize (a ++ ⟨#[10]⟩ ++ b : ByteArray) = X at hc HC ⊢
        refine (Tokens_ok X _ hc (HE.out.below HB2.out) _ HC.out).mono ?_
        rintro e w3 ⟨g3, cap3, rfl, hg3, hR3, b3⟩
        have HR3 := Lib.hid hR3
        have HB3 := Lib.hid (HB2.out.trans (b3.mono HB2.out.size))
        clear b3 hR3 hg3
        dsimp only
        go_wp2_with fail
        refine (alive _ (HE.out.below HB3.out)).mono ?_
        rintro e w4 ⟨rfl, b4⟩
        dsimp only
        go_wp2
        go_ret
        exact ⟨rfl, HB3.out.trans (b4.mono HB3.out.size)⟩
    · exact absurd (hbad2 ts us rfl rfl) id

end Lxw
end Go.Proofs.YtelejpajnemmfaaDoor
