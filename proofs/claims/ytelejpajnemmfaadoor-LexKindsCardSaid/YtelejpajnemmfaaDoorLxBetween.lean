/-
  DERIVED. LAYER 2 (lex): what stands between tokens: the reference's way over it, walked.
-/
import Derived.Test.YtelejpajnemmfaaDoorLxRefKey
namespace Go.Proofs.YtelejpajnemmfaaDoor
open Go.RowKit
namespace Lxw
open Gl Lx Glw

theorem skip_step (m : Bool) (s : ByteArray) (pos : Nat) (h : pos < s.size) (c : UInt8) (hc : s.get! pos = c) :
    skipM m (s.data.toList.drop pos) = if m = true then (if c.toNat = 10 then 1 + skipM false (s.data.toList.drop (pos + 1)) else 1 + skipM true (s.data.toList.drop (pos + 1)))
      else if blankB c = true then 1 + skipM false (s.data.toList.drop (pos + 1)) else if c.toNat = 35 then 1 + skipM true (s.data.toList.drop (pos + 1)) else 0 := by
  rw [drop_cons s pos h, hc]
  cases m <;> rfl
theorem skip_end (m : Bool) (s : ByteArray) (pos : Nat) (h : s.size ≤ pos) : skipM m (s.data.toList.drop pos) = 0 := by
  rw [List.drop_eq_nil_of_le (by rw [size_data]; exact h)]
  cases m <;> rfl

/-- In blanks: where the skipping ends. -/
def BR (s : ByteArray) (T : Nat) (m : Bool) (i : Value) : Prop := ∃ pos : Nat, i = .int .i64 pos ∧ pos ≤ s.size ∧ pos + skipM m (s.data.toList.drop pos) = T

set_option maxHeartbeats 2000000 in
set_option maxRecDepth 100000 in
theorem between (s : ByteArray) (pos0 : Nat) (w : World) (hs : s.size ≤ 35184372088832) (h0 : pos0 ≤ s.size) :
    Calls Tryd.prog 23 #[.string s, .int .i64 pos0] w fun e w' => e = .returned (.int .i64 ((pos0 + skipM false (s.data.toList.drop pos0) : Nat) : Int)) ∧ w = w' := by
  obtain ⟨T, hT⟩ : ∃ T, pos0 + skipM false (s.data.toList.drop pos0) = T := ⟨_, rfl⟩
  rw [hT]
  go_enter Tryd.func23, Tryd.ntmps23
  go_wp2
  go_loop [1] (fun i => BR s T false i) (fun i => s.size - (intOf i).toNat)
  case atStart => exact ⟨pos0, rfl, h0, hT⟩
  case round =>
    clear hT h0
    obtain ⟨pos, rfl, hle, hT⟩ := hrel
    have HT := Lib.hid hT
    clear hT
    by_cases hp : pos < s.size
    · have hg := get_lt s pos hp
      have Hst := Lib.hid (skip_step false s pos hp)
      obtain ⟨c, hc⟩ : ∃ c, s.get! pos = c := ⟨_, rfl⟩
      rw [hc] at hg
      have HC := Lib.hid hc
      clear hc
      have hp' : (pos : Int) < s.size := by omega
      by_cases hb : blankB c = true
      · have hb3 : c.toNat = 32 ∨ c.toNat = 9 ∨ c.toNat = 10 := by
          unfold blankB at hb; simp at hb; omega
        have hn : pos + 1 + skipM false (s.data.toList.drop (pos + 1)) = T := by
          have h1 := Hst.out c HC.out
          rw [if_neg (by decide), if_pos hb] at h1
          have h2 := HT.out
          omega
        have HN := Lib.hid hn
        clear hn hb
        rcases hb3 with h1 | h1 | h1
        all_goals
          have e : (c.toNat : Int) = _ := congrArg Nat.cast h1
          go_wp2
          go_round
          case rel => exact ⟨pos + 1, rfl, hp, HN.out⟩
          case measure => simp [intOf]; omega
      · have hb' : blankB c = false := Bool.eq_false_iff.2 hb
        have n1 : ((c.toNat : Int) == 32) = false := by unfold blankB at hb'; simp at hb'; rw [beq_eq_false_iff_ne]; omega
        have n2 : ((c.toNat : Int) == 9) = false := by unfold blankB at hb'; simp at hb'; rw [beq_eq_false_iff_ne]; omega
        have n3 : ((c.toNat : Int) == 10) = false := by unfold blankB at hb'; simp at hb'; rw [beq_eq_false_iff_ne]; omega
        by_cases h35 : c.toNat = 35
        · have n4 : ((c.toNat : Int) == 35) = true := by rw [beq_iff_eq]; omega
          have n5 : ((c.toNat : Int) != 10) = true := by rw [bne_iff_ne]; omega
          have hn : pos + skipM true (s.data.toList.drop pos) = T := by
            have h1 := Hst.out c HC.out
            rw [if_neg (by decide), if_neg hb, if_pos h35] at h1
            have h2 := HT.out
            rw [skip_step true s pos hp c HC.out, if_pos rfl, if_neg (by omega)]
            omega
          have HN := Lib.hid hn
          clear hn hb hb'
          go_wp2
          go_loop [1] (fun i => ∃ p : Nat, i = .int .i64 p ∧ pos ≤ p ∧ p ≤ s.size ∧ p + skipM true (s.data.toList.drop p) = T) (fun i => s.size - (intOf i).toNat)
          case atStart => exact ⟨pos, rfl, Nat.le_refl _, hle, HN.out⟩
          case round =>
            obtain ⟨p, rfl, hpp, hpl, hpT⟩ := hrel
            have HP := Lib.hid hpT
            clear hpT
            by_cases hq : p < s.size
            · have hq' : (p : Int) < s.size := by omega
              have hgd := get_lt s p hq
              have Hsd := Lib.hid (skip_step true s p hq)
              obtain ⟨d, hd⟩ : ∃ d, s.get! p = d := ⟨_, rfl⟩
              rw [hd] at hgd
              have HD := Lib.hid hd
              have hcd : p = pos → d = c := fun e => by rw [← hd, e, HC.out]
              clear hd
              by_cases h10 : d.toNat = 10
              · have m1 : ((d.toNat : Int) != 10) = false := by rw [← Bool.not_eq_true, bne_iff_ne]; omega
                have hne : pos < p := by
                  rcases Nat.lt_or_ge pos p with h | h
                  · exact h
                  · have := hcd (by omega); subst this; omega
                have hn2 : p + skipM false (s.data.toList.drop p) = T := by
                  have h1 := Hsd.out d HD.out
                  rw [if_pos rfl, if_pos h10] at h1
                  have h2 := HP.out
                  rw [skip_step false s p hq d HD.out, if_neg (by decide), if_pos (by unfold blankB; simp [h10])]
                  omega
                have HN2 := Lib.hid hn2
                clear hn2 hcd
                go_wp2
                go_round
                case rel => exact ⟨p, rfl, hpl, HN2.out⟩
                case measure => simp [intOf]; omega
              · have m1 : ((d.toNat : Int) != 10) = true := by rw [bne_iff_ne]; omega
                have hn2 : p + 1 + skipM true (s.data.toList.drop (p + 1)) = T := by
                  have h1 := Hsd.out d HD.out
                  rw [if_pos rfl, if_neg h10] at h1
                  have h2 := HP.out
                  omega
                have HN2 := Lib.hid hn2
                clear hn2 hcd
                go_wp2
                go_round
                case rel => exact ⟨p + 1, rfl, by omega, hq, HN2.out⟩
                case measure => simp [intOf]; omega
            · have hq' : ¬ (p : Int) < s.size := by omega
              have hn2 : p + skipM false (s.data.toList.drop p) = T := by
                have h2 := HP.out
                rw [skip_end _ s p (by omega)] at h2 ⊢
                exact h2
              have HN2 := Lib.hid hn2
              clear hn2
              go_wp2
              go_round
              case rel => exact ⟨p, rfl, hpl, HN2.out⟩
              case measure => simp [intOf]; omega
        · have n4 : ((c.toNat : Int) == 35) = false := by rw [beq_eq_false_iff_ne]; omega
          have e : (pos : Int) = (T : Int) := by
            have h1 := Hst.out c HC.out
            rw [if_neg (by decide), if_neg hb, if_neg h35] at h1
            have h2 := HT.out
            omega
          have HE := Lib.hid e
          clear e hb hb'
          go_wp2
          go_ret
          exact ⟨by rw [← HE.out]; rfl, rfl⟩
    · have : ¬ (pos : Int) < s.size := by omega
      have hlast := HT.out
      rw [skip_end false s pos (by omega)] at hlast
      have e : (pos : Int) = (T : Int) := by omega
      clear hlast
      go_wp2
      go_ret
      exact ⟨rfl, rfl⟩
end Lxw
end Go.Proofs.YtelejpajnemmfaaDoor
