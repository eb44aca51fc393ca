/-
  DERIVED. LAYER 2 (lex): what kind of token a word is, walked.
-/
import Derived.Test.YtelejpajnemmfaaDoorLxWord
namespace Go.Proofs.YtelejpajnemmfaaDoor
open Go.RowKit
namespace Lxw
open Gl Lx Glw

theorem idx_fig (s : ByteArray) : ∀ (f pos : Nat), s.size ≤ pos + f →
    decide (0 ≤ Lib.idxFuncFrom (fun r => !inB r 48 57) true s f pos) = !(s.data.toList.drop pos).all figB
  | 0, pos, h => by
    rw [List.drop_eq_nil_of_le (by rw [size_data]; omega)]
    rfl
  | f + 1, pos, h => by
    unfold Lib.idxFuncFrom
    by_cases hp : pos < s.size
    · rw [if_pos hp]
      have hd := drop_cons s pos hp
      have hb := inB_rune s pos hp 48 57 (by omega) (by omega)
      by_cases hc : figB (s.get! pos) = true
      · have hc2 : inB (s.get! pos).toNat 48 57 = true := hc
        rw [if_neg (by rw [hb, hc2]; decide)]
        rw [step_ascii s pos hp (inB_ascii (by omega) hc2), idx_fig s f (pos + 1) (by omega), hd]
        simp only [List.all_cons, hc, Bool.true_and]
      · have hc' : figB (s.get! pos) = false := Bool.eq_false_iff.2 hc
        have hc2 : inB (s.get! pos).toNat 48 57 = false := hc'
        rw [if_pos (by rw [hb, hc2]; rfl), hd]
        simp [hc']
    · rw [if_neg hp, List.drop_eq_nil_of_le (by rw [size_data]; omega)]
      rfl

/-- What 'kind' says: of no token: a number's kind, and 'false'. -/
def kindR (l : List UInt8) : Int × Bool := match kindOf l with
  | some k => (k, true)
  | none => (3, false)
theorem kindR_tag {l : List UInt8} (h : tagL l = true) : kindR l = (2, true) := by unfold kindR kindOf; rw [if_pos h]; rfl
theorem kindR_key {l : List UInt8} (h : tagL l = false) (h2 : keysL.contains l = true) : kindR l = (6, true) := by unfold kindR kindOf; rw [if_neg (by rw [h]; decide), if_pos h2]; rfl
theorem kindR_word {l : List UInt8} (h : tagL l = false) (h2 : keysL.contains l = false) (h3 : wordL l = true) : kindR l = (1, true) := by unfold kindR kindOf; rw [if_neg (by rw [h]; decide), if_neg (by rw [h2]; decide), if_pos h3]; rfl
theorem kindR_num {l : List UInt8} (h : tagL l = false) (h2 : keysL.contains l = false) (h3 : wordL l = false) : kindR l = (3, l.all figB && decide (l.length ≤ 18)) := by
  unfold kindR kindOf
  rw [if_neg (by rw [h]; decide), if_neg (by rw [h2]; decide), if_neg (by rw [h3]; decide)]
  cases l.all figB && decide (l.length ≤ 18) <;> rfl

set_option maxHeartbeats 1000000 in
set_option maxRecDepth 100000 in
theorem kind (s : ByteArray) (w : World) (hs : s.size ≤ 17592186044416) (hE : Env w) :
    Calls Tryd.prog 39 #[.string s] w fun e w' => e = .returned (.tuple #[.int .i64 (kindR s.data.toList).1, .bool (kindR s.data.toList).2]) ∧ Below w.heap.size w w' := by
  have HT := fun w => IsTag s w
  have HK := fun w h => IsKey s w hs h
  have HW := fun w => IsWord s w
  have HF := fun w => Tryd.strings_ContainsFunc_grows 71 #[] (enters_of Tryd.func71 (by kernel_rfl) rfl) (fun r => !inB r 48 57) s w (kind_grows w)
  rw [show decide (0 ≤ Lib.idxFunc (fun r => !inB r 48 57) true s) = !s.data.toList.all figB from idx_fig s s.size 0 (by omega)] at HF
  have hsz := size_data s
  generalize s.data.toList = l at HT HK HW HF hsz ⊢
  have HE := Lib.hid hE
  obtain ⟨t, ht⟩ : ∃ t, tagL l = t := ⟨_, rfl⟩
  rw [ht] at HT
  cases t with
  | true =>
    rw [kindR_tag ht]
    go_enter Tryd.func39, Tryd.ntmps39
    go_wp2_with fail
    refine (HT _).mono ?_
    rintro e w1 ⟨rfl, b1⟩
    dsimp only
    go_wp2_with fail
    go_ret2
    exact ⟨rfl, b1⟩
  | false =>
    obtain ⟨k, hk⟩ : ∃ k, keysL.contains l = k := ⟨_, rfl⟩
    rw [hk] at HK
    cases k with
    | true =>
      rw [kindR_key ht hk]
      go_enter Tryd.func39, Tryd.ntmps39
      go_wp2_with fail
      refine (HT _).mono ?_
      rintro e w1 ⟨rfl, b1⟩
      dsimp only
      go_wp2_with fail
      refine (HK _ (HE.out.below b1)).mono ?_
      rintro e w2 ⟨rfl, b2⟩
      dsimp only
      go_wp2_with fail
      go_ret2
      exact ⟨rfl, b1.trans (b2.mono b1.size)⟩
    | false =>
      obtain ⟨v, hv⟩ : ∃ v, wordL l = v := ⟨_, rfl⟩
      rw [hv] at HW
      cases v with
      | true =>
        rw [kindR_word ht hk hv]
        go_enter Tryd.func39, Tryd.ntmps39
        go_wp2_with fail
        refine (HT _).mono ?_
        rintro e w1 ⟨rfl, b1⟩
        dsimp only
        go_wp2_with fail
        refine (HK _ (HE.out.below b1)).mono ?_
        rintro e w2 ⟨rfl, b2⟩
        have c2 := b1.trans (b2.mono b1.size)
        dsimp only
        go_wp2_with fail
        refine (HW _).mono ?_
        rintro e w3 ⟨rfl, b3⟩
        dsimp only
        go_wp2_with fail
        go_ret2
        exact ⟨rfl, c2.trans (b3.mono c2.size)⟩
      | false =>
        rw [kindR_num ht hk hv]
        generalize l.all figB = f at HF ⊢
        have hd : decide (l.length ≤ 18) = decide ((s.size : Int) ≤ 18) := by rw [Bool.eq_iff_iff, decide_eq_true_iff, decide_eq_true_iff]; omega
        rw [hd]
        go_enter Tryd.func39, Tryd.ntmps39
        go_wp2_with fail
        refine (HT _).mono ?_
        rintro e w1 ⟨rfl, b1⟩
        dsimp only
        go_wp2_with fail
        refine (HK _ (HE.out.below b1)).mono ?_
        rintro e w2 ⟨rfl, b2⟩
        have c2 := b1.trans (b2.mono b1.size)
        dsimp only
        go_wp2_with fail
        refine (HW _).mono ?_
        rintro e w3 ⟨rfl, b3⟩
        have c3 := c2.trans (b3.mono c2.size)
        dsimp only
        go_wp2_with fail
        refine (HF _).mono ?_
        rintro e w4 ⟨rfl, b4⟩
        have c4 := c3.trans (b4.mono c3.size)
        cases f with
        | true =>
          dsimp only
          go_wp2
          go_ret2
          exact ⟨rfl, c4⟩
        | false =>
          dsimp only
          go_wp2
          go_ret2
          exact ⟨rfl, c4⟩
end Lxw
end Go.Proofs.YtelejpajnemmfaaDoor
