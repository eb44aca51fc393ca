/-
  DERIVED. THE STATEMENT GlyphMore, WALKED: by intervals of the byte, and by what the text is. The cases are printed by program (wip/gen_more.py).
-/
import Derived.Test.YtjjkbfjahljeeaaDoorGlMoreA
import Derived.Test.YtjjkbfjahljeeaaDoorGlMoreB
import Derived.Test.YtjjkbfjahljeeaaDoorGlMoreC
import Derived.BigGuard
import Derived.BigCall
namespace Go.Proofs.YtjjkbfjahljeeaaDoor
open Go.RowKit
namespace Glw
open Gl



set_option maxHeartbeats 2000000 in
theorem law_more (s : ByteArray) (z : Int) (hz : 0 ≤ z ∧ z ≤ 255) (w : World) (hT : Tabs w) : Calls Tryd.prog 8 #[.string s, .int .u8 z] w fun e w' => e = .returned (.bool true) ∧ Below w.heap.size w w' := by
  by_cases h : 2000 < s.size
  · have HT := Lib.hid hT
    clear hT
    have h' : (2000 : Int) < s.size := by omega
    go_enter Tryd.func8, Tryd.ntmps8
    go_wp2_with fail
    refine (alive _ HT.out).mono ?_
    rintro e w1 ⟨rfl, b1⟩
    go_wp2
    go_ret
    exact ⟨rfl, b1⟩
  · have h' : (s.size : Int) ≤ 2000 := by omega
    obtain ⟨b, hb⟩ : ∃ b : UInt8, z = b.toNat := ⟨UInt8.ofNat z.toNat, by rw [UInt8.toNat_ofNat']; omega⟩
    have ea : (s ++ ⟨#[b]⟩ : ByteArray).data.toList = s.data.toList ++ [b] := by rw [app_data]
    have hbz : ∀ (v : Bool), behindZ z = v → behindB b = v := fun v h => by unfold behindB; rw [← hb]; exact h
    have hsz : ∀ (v : Bool), inB z 97 122 = v → smallB b = v := fun v h => by unfold smallB; rw [← hb]; exact h
    have hgz : ∀ (v : Bool), inB z 65 90 = v → greatB b = v := fun v h => by unfold greatB; rw [← hb]; exact h
    have hno := word_tag s.data.toList
    by_cases he : s.size = 0
    · have en := data_nil s he
      have w0 : wordL s.data.toList = false := by rw [en]; rfl
      have t0 : tagL s.data.toList = false := by rw [en]; rfl
      have w1 : wordL (s ++ ⟨#[b]⟩).data.toList = smallB b := by rw [ea, en]; show (smallB b && [].all behindB) = _; simp
      have t1 : tagL (s ++ ⟨#[b]⟩).data.toList = greatB b := by rw [ea, en]; show (greatB b && [].all behindB) = _; simp
      by_cases qa : z ≤ 47
      · exact more_a0 s z b hb (by omega) (by omega) h' he w0 t0 (by rw [w1]; exact hsz _ (inB_no (by omega))) (by rw [t1]; exact hgz _ (inB_no (by omega))) w hT
      by_cases qb : z ≤ 57
      · exact more_b0 s z b hb (by omega) (by omega) h' he w0 t0 (by rw [w1]; exact hsz _ (inB_no (by omega))) (by rw [t1]; exact hgz _ (inB_no (by omega))) w hT
      by_cases qc : z ≤ 64
      · exact more_c0 s z b hb (by omega) (by omega) h' he w0 t0 (by rw [w1]; exact hsz _ (inB_no (by omega))) (by rw [t1]; exact hgz _ (inB_no (by omega))) w hT
      by_cases qd : z ≤ 90
      · exact more_d0 s z b hb (by omega) (by omega) h' he w0 t0 (by rw [w1]; exact hsz _ (inB_no (by omega))) (by rw [t1]; exact hgz _ (inB_yes (by omega))) w hT
      by_cases qe : z ≤ 94
      · exact more_e0 s z b hb (by omega) (by omega) h' he w0 t0 (by rw [w1]; exact hsz _ (inB_no (by omega))) (by rw [t1]; exact hgz _ (inB_no (by omega))) w hT
      by_cases qf : z ≤ 95
      · exact more_f0 s z b hb (by omega) (by omega) h' he w0 t0 (by rw [w1]; exact hsz _ (inB_no (by omega))) (by rw [t1]; exact hgz _ (inB_no (by omega))) w hT
      by_cases qg : z ≤ 96
      · exact more_g0 s z b hb (by omega) (by omega) h' he w0 t0 (by rw [w1]; exact hsz _ (inB_no (by omega))) (by rw [t1]; exact hgz _ (inB_no (by omega))) w hT
      by_cases qh : z ≤ 122
      · exact more_h0 s z b hb (by omega) (by omega) h' he w0 t0 (by rw [w1]; exact hsz _ (inB_yes (by omega))) (by rw [t1]; exact hgz _ (inB_no (by omega))) w hT
      exact more_i0 s z b hb (by omega) (by omega) h' he w0 t0 (by rw [w1]; exact hsz _ (inB_no (by omega))) (by rw [t1]; exact hgz _ (inB_no (by omega))) w hT
    · have ne : s.data.toList ≠ [] := fun e => he (by rw [← size_data, e]; rfl)
      have hp : 0 < s.size := by omega
      have hm := word_more s.data.toList b ne
      rw [← ea] at hm
      rcases Bool.eq_false_or_eq_true (wordL s.data.toList) with w0 | w0
      · have t0 : tagL s.data.toList = false := by rw [w0] at hno; simpa using hno
        rw [w0, t0] at hm
        by_cases qa : z ≤ 47
        · exact more_a2 s z b hb (by omega) (by omega) h' hp w0 t0 (by rw [hm.1, (hbz false (by unfold behindZ; simp [inB]; omega))]; rfl) (by rw [hm.2, (hbz false (by unfold behindZ; simp [inB]; omega))]; rfl) w hT
        by_cases qb : z ≤ 57
        · exact more_b2 s z b hb (by omega) (by omega) h' hp w0 t0 (by rw [hm.1, (hbz true (by unfold behindZ; simp [inB]; omega))]; rfl) (by rw [hm.2, (hbz true (by unfold behindZ; simp [inB]; omega))]; rfl) w hT
        by_cases qc : z ≤ 64
        · exact more_c2 s z b hb (by omega) (by omega) h' hp w0 t0 (by rw [hm.1, (hbz false (by unfold behindZ; simp [inB]; omega))]; rfl) (by rw [hm.2, (hbz false (by unfold behindZ; simp [inB]; omega))]; rfl) w hT
        by_cases qd : z ≤ 90
        · exact more_d2 s z b hb (by omega) (by omega) h' hp w0 t0 (by rw [hm.1, (hbz true (by unfold behindZ; simp [inB]; omega))]; rfl) (by rw [hm.2, (hbz true (by unfold behindZ; simp [inB]; omega))]; rfl) w hT
        by_cases qe : z ≤ 94
        · exact more_e2 s z b hb (by omega) (by omega) h' hp w0 t0 (by rw [hm.1, (hbz false (by unfold behindZ; simp [inB]; omega))]; rfl) (by rw [hm.2, (hbz false (by unfold behindZ; simp [inB]; omega))]; rfl) w hT
        by_cases qf : z ≤ 95
        · exact more_f2 s z b hb (by omega) (by omega) h' hp w0 t0 (by rw [hm.1, (hbz true (by unfold behindZ; simp [inB]; omega))]; rfl) (by rw [hm.2, (hbz true (by unfold behindZ; simp [inB]; omega))]; rfl) w hT
        by_cases qg : z ≤ 96
        · exact more_g2 s z b hb (by omega) (by omega) h' hp w0 t0 (by rw [hm.1, (hbz false (by unfold behindZ; simp [inB]; omega))]; rfl) (by rw [hm.2, (hbz false (by unfold behindZ; simp [inB]; omega))]; rfl) w hT
        by_cases qh : z ≤ 122
        · exact more_h2 s z b hb (by omega) (by omega) h' hp w0 t0 (by rw [hm.1, (hbz true (by unfold behindZ; simp [inB]; omega))]; rfl) (by rw [hm.2, (hbz true (by unfold behindZ; simp [inB]; omega))]; rfl) w hT
        exact more_i2 s z b hb (by omega) (by omega) h' hp w0 t0 (by rw [hm.1, (hbz false (by unfold behindZ; simp [inB]; omega))]; rfl) (by rw [hm.2, (hbz false (by unfold behindZ; simp [inB]; omega))]; rfl) w hT
      · rcases Bool.eq_false_or_eq_true (tagL s.data.toList) with t0 | t0
        · rw [w0, t0] at hm
          by_cases qa : z ≤ 47
          · exact more_a3 s z b hb (by omega) (by omega) h' hp w0 t0 (by rw [hm.1, (hbz false (by unfold behindZ; simp [inB]; omega))]; rfl) (by rw [hm.2, (hbz false (by unfold behindZ; simp [inB]; omega))]; rfl) w hT
          by_cases qb : z ≤ 57
          · exact more_b3 s z b hb (by omega) (by omega) h' hp w0 t0 (by rw [hm.1, (hbz true (by unfold behindZ; simp [inB]; omega))]; rfl) (by rw [hm.2, (hbz true (by unfold behindZ; simp [inB]; omega))]; rfl) w hT
          by_cases qc : z ≤ 64
          · exact more_c3 s z b hb (by omega) (by omega) h' hp w0 t0 (by rw [hm.1, (hbz false (by unfold behindZ; simp [inB]; omega))]; rfl) (by rw [hm.2, (hbz false (by unfold behindZ; simp [inB]; omega))]; rfl) w hT
          by_cases qd : z ≤ 90
          · exact more_d3 s z b hb (by omega) (by omega) h' hp w0 t0 (by rw [hm.1, (hbz true (by unfold behindZ; simp [inB]; omega))]; rfl) (by rw [hm.2, (hbz true (by unfold behindZ; simp [inB]; omega))]; rfl) w hT
          by_cases qe : z ≤ 94
          · exact more_e3 s z b hb (by omega) (by omega) h' hp w0 t0 (by rw [hm.1, (hbz false (by unfold behindZ; simp [inB]; omega))]; rfl) (by rw [hm.2, (hbz false (by unfold behindZ; simp [inB]; omega))]; rfl) w hT
          by_cases qf : z ≤ 95
          · exact more_f3 s z b hb (by omega) (by omega) h' hp w0 t0 (by rw [hm.1, (hbz true (by unfold behindZ; simp [inB]; omega))]; rfl) (by rw [hm.2, (hbz true (by unfold behindZ; simp [inB]; omega))]; rfl) w hT
          by_cases qg : z ≤ 96
          · exact more_g3 s z b hb (by omega) (by omega) h' hp w0 t0 (by rw [hm.1, (hbz false (by unfold behindZ; simp [inB]; omega))]; rfl) (by rw [hm.2, (hbz false (by unfold behindZ; simp [inB]; omega))]; rfl) w hT
          by_cases qh : z ≤ 122
          · exact more_h3 s z b hb (by omega) (by omega) h' hp w0 t0 (by rw [hm.1, (hbz true (by unfold behindZ; simp [inB]; omega))]; rfl) (by rw [hm.2, (hbz true (by unfold behindZ; simp [inB]; omega))]; rfl) w hT
          exact more_i3 s z b hb (by omega) (by omega) h' hp w0 t0 (by rw [hm.1, (hbz false (by unfold behindZ; simp [inB]; omega))]; rfl) (by rw [hm.2, (hbz false (by unfold behindZ; simp [inB]; omega))]; rfl) w hT
        · rw [w0, t0] at hm
          by_cases qa : z ≤ 47
          · exact more_a1 s z b hb (by omega) (by omega) h' hp w0 t0 (by rw [hm.1, (hbz false (by unfold behindZ; simp [inB]; omega))]; rfl) (by rw [hm.2, (hbz false (by unfold behindZ; simp [inB]; omega))]; rfl) w hT
          by_cases qb : z ≤ 57
          · exact more_b1 s z b hb (by omega) (by omega) h' hp w0 t0 (by rw [hm.1, (hbz true (by unfold behindZ; simp [inB]; omega))]; rfl) (by rw [hm.2, (hbz true (by unfold behindZ; simp [inB]; omega))]; rfl) w hT
          by_cases qc : z ≤ 64
          · exact more_c1 s z b hb (by omega) (by omega) h' hp w0 t0 (by rw [hm.1, (hbz false (by unfold behindZ; simp [inB]; omega))]; rfl) (by rw [hm.2, (hbz false (by unfold behindZ; simp [inB]; omega))]; rfl) w hT
          by_cases qd : z ≤ 90
          · exact more_d1 s z b hb (by omega) (by omega) h' hp w0 t0 (by rw [hm.1, (hbz true (by unfold behindZ; simp [inB]; omega))]; rfl) (by rw [hm.2, (hbz true (by unfold behindZ; simp [inB]; omega))]; rfl) w hT
          by_cases qe : z ≤ 94
          · exact more_e1 s z b hb (by omega) (by omega) h' hp w0 t0 (by rw [hm.1, (hbz false (by unfold behindZ; simp [inB]; omega))]; rfl) (by rw [hm.2, (hbz false (by unfold behindZ; simp [inB]; omega))]; rfl) w hT
          by_cases qf : z ≤ 95
          · exact more_f1 s z b hb (by omega) (by omega) h' hp w0 t0 (by rw [hm.1, (hbz true (by unfold behindZ; simp [inB]; omega))]; rfl) (by rw [hm.2, (hbz true (by unfold behindZ; simp [inB]; omega))]; rfl) w hT
          by_cases qg : z ≤ 96
          · exact more_g1 s z b hb (by omega) (by omega) h' hp w0 t0 (by rw [hm.1, (hbz false (by unfold behindZ; simp [inB]; omega))]; rfl) (by rw [hm.2, (hbz false (by unfold behindZ; simp [inB]; omega))]; rfl) w hT
          by_cases qh : z ≤ 122
          · exact more_h1 s z b hb (by omega) (by omega) h' hp w0 t0 (by rw [hm.1, (hbz true (by unfold behindZ; simp [inB]; omega))]; rfl) (by rw [hm.2, (hbz true (by unfold behindZ; simp [inB]; omega))]; rfl) w hT
          exact more_i1 s z b hb (by omega) (by omega) h' hp w0 t0 (by rw [hm.1, (hbz false (by unfold behindZ; simp [inB]; omega))]; rfl) (by rw [hm.2, (hbz false (by unfold behindZ; simp [inB]; omega))]; rfl) w hT
end Glw
end Go.Proofs.YtjjkbfjahljeeaaDoor
