/-
  DERIVED. LAYER 19 (value), the reference's, walked: does a node use what its kind uses (what a yes tells). (Printed by wip/gen_uses.py.)
-/
import Derived.Test.YthamcklkmchkiaaDoorShWrap
namespace Go.Proofs.YthamcklkmchkiaaDoor
open Go.RowKit
namespace Shw
open Gl Glw Sh

def UsesPost (n : VN) (w : World) (e : Ending) (w' : World) : Prop := ∃ bo : Bool, e = .returned (.bool bo) ∧ (bo = true → UsesP n) ∧ Below w.heap.size w w'
theorem uses_false {n : VN} {w w' : World} (h : Below w.heap.size w w') : UsesPost n w (.returned (.bool false)) w' := ⟨false, rfl, fun h => by simp at h, h⟩
theorem uses_true {n : VN} {w w' : World} {bo : Bool} (hu : UsesP n) (h : Below w.heap.size w w') : UsesPost n w (.returned (.bool bo)) w' := ⟨bo, rfl, fun _ => hu, h⟩
theorem isEmpty_size (s : ByteArray) : s.toList.isEmpty = decide (s.size = 0) := by
  rw [toList_data, Bool.eq_iff_iff]
  simp only [List.isEmpty_iff, decide_eq_true_eq]
  rw [← List.length_eq_zero_iff, size_data]

set_option maxHeartbeats 8000000 in
set_option maxRecDepth 100000 in
theorem uses19 (n : VN) (w : World) (hs : n.nm.size ≤ 9223372036854775807) (hT : TyIn w n.tA n.tn n.tc) (hU : TyIn w n.uA n.un n.uc) :
    Calls Tryd.prog 46 #[.agg #[.int .i64 n.k, .string n.lab, .string n.nm, .int .i64 n.num, .int .i64 n.many, .slice n.tA n.tn n.tc, .slice n.uA n.un n.uc]] w (UsesPost n w) := by
  have hb : Below w.heap.size w (w.alloc (.cells #[.int .i64 n.k, .string n.lab, .string n.nm, .int .i64 n.num, .int .i64 n.many, .slice n.tA n.tn n.tc, .slice n.uA n.un n.uc] 38)) := (Below.refl _ _).alloc (Nat.le_refl _) _
  have HB := Lib.hid hb
  have HTG := Lib.hid (fun w => refIsTag n.nm w hs)
  have HWR := Lib.hid (wrap19 n (w.alloc (.cells #[.int .i64 n.k, .string n.lab, .string n.nm, .int .i64 n.num, .int .i64 n.many, .slice n.tA n.tn n.tc, .slice n.uA n.un n.uc] 38)) (hT.since hb) (hU.since hb))
  have he := isEmpty_size n.nm
  have HE := Lib.hid he
  clear hb hT hU he hs
  by_cases h0 : n.k = 0
  · have q0 : (n.k == 0) = true := by rw [beq_iff_eq]; exact h0
    have HK := Lib.hid h0
    clear h0
    by_cases ht : n.tn = 0
    · have qt : ((n.tn : Int) == 0) = true := by rw [beq_iff_eq]; omega
      have HT0 := Lib.hid ht
      clear ht
      by_cases hu : n.un = 0
      · have qu : ((n.un : Int) == 0) = true := by rw [beq_iff_eq]; omega
        have HU0 := Lib.hid hu
        clear hu
        by_cases xnm0 : n.nm.size = 0
        · have qnm0 : n.nm.toList.isEmpty = true := by rw [HE.out]; exact decide_eq_true xnm0
          have Knm0 := Lib.hid xnm0
          clear xnm0
          by_cases xmany0 : n.many = 0
          · have qmany0 : (n.many == 0) = true := by rw [beq_iff_eq]; exact xmany0
            have Kmany0 := Lib.hid xmany0
            clear xmany0
            have HU := Lib.hid (show UsesP n from ⟨.inr ⟨HT0.out, HU0.out⟩, .inl ⟨HK.out, Knm0.out, Kmany0.out⟩⟩)
            go_enter Tryd.func46, Tryd.ntmps46
            go_wp2_with fail
            go_ret
            exact uses_true HU.out HB.out
          · have qmany0 : (n.many == 0) = false := by rw [beq_eq_false_iff_ne]; exact xmany0
            clear xmany0
            go_enter Tryd.func46, Tryd.ntmps46
            go_wp2_with fail
            go_ret
            exact uses_false HB.out
        · have qnm0 : n.nm.toList.isEmpty = false := by rw [HE.out]; exact decide_eq_false xnm0
          clear xnm0
          go_enter Tryd.func46, Tryd.ntmps46
          go_wp2_with fail
          go_ret
          exact uses_false HB.out
      · have qu : ((n.un : Int) == 0) = false := by rw [beq_eq_false_iff_ne]; omega
        clear hu
        go_enter Tryd.func46, Tryd.ntmps46
        go_wp2_with fail
        go_ret
        exact uses_false HB.out
    · have qt : ((n.tn : Int) == 0) = false := by rw [beq_eq_false_iff_ne]; omega
      clear ht
      go_enter Tryd.func46, Tryd.ntmps46
      go_wp2_with fail
      go_ret
      exact uses_false HB.out
  · have q0 : (n.k == 0) = false := by rw [beq_eq_false_iff_ne]; exact h0
    clear h0
    by_cases h1 : n.k = 1
    · have q1 : (n.k == 1) = true := by rw [beq_iff_eq]; exact h1
      have HK := Lib.hid h1
      clear h1
      by_cases ht : n.tn = 0
      · have qt : ((n.tn : Int) == 0) = true := by rw [beq_iff_eq]; omega
        have HT0 := Lib.hid ht
        clear ht
        by_cases hu : n.un = 0
        · have qu : ((n.un : Int) == 0) = true := by rw [beq_iff_eq]; omega
          have HU0 := Lib.hid hu
          clear hu
          by_cases xnm0 : n.nm.size = 0
          · have qnm0 : n.nm.toList.isEmpty = true := by rw [HE.out]; exact decide_eq_true xnm0
            have Knm0 := Lib.hid xnm0
            clear xnm0
            by_cases xmany0 : n.many = 0
            · have qmany0 : (n.many == 0) = true := by rw [beq_iff_eq]; exact xmany0
              have Kmany0 := Lib.hid xmany0
              clear xmany0
              by_cases xnum0 : n.num = 0
              · have qnum0 : (n.num == 0) = true := by rw [beq_iff_eq]; exact xnum0
                have Knum0 := Lib.hid xnum0
                clear xnum0
                have HU := Lib.hid (show UsesP n from ⟨.inr ⟨HT0.out, HU0.out⟩, .inr (.inl ⟨HK.out, Knm0.out, Kmany0.out, .inl Knum0.out⟩)⟩)
                go_enter Tryd.func46, Tryd.ntmps46
                go_wp2_with fail
                go_ret
                exact uses_true HU.out HB.out
              · have qnum0 : (n.num == 0) = false := by rw [beq_eq_false_iff_ne]; exact xnum0
                clear xnum0
                by_cases xnum1 : n.num = 1
                · have qnum1 : (n.num == 1) = true := by rw [beq_iff_eq]; exact xnum1
                  have Knum1 := Lib.hid xnum1
                  clear xnum1
                  have HU := Lib.hid (show UsesP n from ⟨.inr ⟨HT0.out, HU0.out⟩, .inr (.inl ⟨HK.out, Knm0.out, Kmany0.out, .inr Knum1.out⟩)⟩)
                  go_enter Tryd.func46, Tryd.ntmps46
                  go_wp2_with fail
                  go_ret
                  exact uses_true HU.out HB.out
                · have qnum1 : (n.num == 1) = false := by rw [beq_eq_false_iff_ne]; exact xnum1
                  clear xnum1
                  go_enter Tryd.func46, Tryd.ntmps46
                  go_wp2_with fail
                  go_ret
                  exact uses_false HB.out
            · have qmany0 : (n.many == 0) = false := by rw [beq_eq_false_iff_ne]; exact xmany0
              clear xmany0
              go_enter Tryd.func46, Tryd.ntmps46
              go_wp2_with fail
              go_ret
              exact uses_false HB.out
          · have qnm0 : n.nm.toList.isEmpty = false := by rw [HE.out]; exact decide_eq_false xnm0
            clear xnm0
            go_enter Tryd.func46, Tryd.ntmps46
            go_wp2_with fail
            go_ret
            exact uses_false HB.out
        · have qu : ((n.un : Int) == 0) = false := by rw [beq_eq_false_iff_ne]; omega
          clear hu
          go_enter Tryd.func46, Tryd.ntmps46
          go_wp2_with fail
          go_ret
          exact uses_false HB.out
      · have qt : ((n.tn : Int) == 0) = false := by rw [beq_eq_false_iff_ne]; omega
        clear ht
        go_enter Tryd.func46, Tryd.ntmps46
        go_wp2_with fail
        go_ret
        exact uses_false HB.out
    · have q1 : (n.k == 1) = false := by rw [beq_eq_false_iff_ne]; exact h1
      clear h1
      by_cases h2 : n.k = 2
      · have q2 : (n.k == 2) = true := by rw [beq_iff_eq]; exact h2
        have HK := Lib.hid h2
        clear h2
        by_cases ht : n.tn = 0
        · have qt : ((n.tn : Int) == 0) = true := by rw [beq_iff_eq]; omega
          have HT0 := Lib.hid ht
          clear ht
          by_cases hu : n.un = 0
          · have qu : ((n.un : Int) == 0) = true := by rw [beq_iff_eq]; omega
            have HU0 := Lib.hid hu
            clear hu
            by_cases xnum0 : n.num = 0
            · have qnum0 : (n.num == 0) = true := by rw [beq_iff_eq]; exact xnum0
              have Knum0 := Lib.hid xnum0
              clear xnum0
              by_cases xmany0 : n.many = 0
              · have qmany0 : (n.many == 0) = true := by rw [beq_iff_eq]; exact xmany0
                have Kmany0 := Lib.hid xmany0
                clear xmany0
                have HU := Lib.hid (show UsesP n from ⟨.inr ⟨HT0.out, HU0.out⟩, .inr (.inr (.inl ⟨HK.out, Knum0.out, Kmany0.out⟩))⟩)
                go_enter Tryd.func46, Tryd.ntmps46
                go_wp2_with fail
                go_ret
                exact uses_true HU.out HB.out
              · have qmany0 : (n.many == 0) = false := by rw [beq_eq_false_iff_ne]; exact xmany0
                clear xmany0
                go_enter Tryd.func46, Tryd.ntmps46
                go_wp2_with fail
                go_ret
                exact uses_false HB.out
            · have qnum0 : (n.num == 0) = false := by rw [beq_eq_false_iff_ne]; exact xnum0
              clear xnum0
              go_enter Tryd.func46, Tryd.ntmps46
              go_wp2_with fail
              go_ret
              exact uses_false HB.out
          · have qu : ((n.un : Int) == 0) = false := by rw [beq_eq_false_iff_ne]; omega
            clear hu
            go_enter Tryd.func46, Tryd.ntmps46
            go_wp2_with fail
            go_ret
            exact uses_false HB.out
        · have qt : ((n.tn : Int) == 0) = false := by rw [beq_eq_false_iff_ne]; omega
          clear ht
          go_enter Tryd.func46, Tryd.ntmps46
          go_wp2_with fail
          go_ret
          exact uses_false HB.out
      · have q2 : (n.k == 2) = false := by rw [beq_eq_false_iff_ne]; exact h2
        clear h2
        by_cases h3 : n.k = 3
        · have q3 : (n.k == 3) = true := by rw [beq_iff_eq]; exact h3
          have HK := Lib.hid h3
          clear h3
          by_cases ht : n.tn = 0
          · have qt : ((n.tn : Int) == 0) = true := by rw [beq_iff_eq]; omega
            have HT0 := Lib.hid ht
            clear ht
            by_cases hu : n.un = 0
            · have qu : ((n.un : Int) == 0) = true := by rw [beq_iff_eq]; omega
              have HU0 := Lib.hid hu
              clear hu
              by_cases xnm0 : n.nm.size = 0
              · have qnm0 : n.nm.toList.isEmpty = true := by rw [HE.out]; exact decide_eq_true xnm0
                have Knm0 := Lib.hid xnm0
                clear xnm0
                by_cases xnum0 : n.num = 0
                · have qnum0 : (n.num == 0) = true := by rw [beq_iff_eq]; exact xnum0
                  have Knum0 := Lib.hid xnum0
                  clear xnum0
                  by_cases xmany0 : n.many = 0
                  · have qmany0 : (n.many == 0) = true := by rw [beq_iff_eq]; exact xmany0
                    have Kmany0 := Lib.hid xmany0
                    clear xmany0
                    have HU := Lib.hid (show UsesP n from ⟨.inr ⟨HT0.out, HU0.out⟩, .inr (.inr (.inr (.inl ⟨HK.out, Knm0.out, Knum0.out, Kmany0.out⟩)))⟩)
                    go_enter Tryd.func46, Tryd.ntmps46
                    go_wp2_with fail
                    go_ret
                    exact uses_true HU.out HB.out
                  · have qmany0 : (n.many == 0) = false := by rw [beq_eq_false_iff_ne]; exact xmany0
                    clear xmany0
                    go_enter Tryd.func46, Tryd.ntmps46
                    go_wp2_with fail
                    go_ret
                    exact uses_false HB.out
                · have qnum0 : (n.num == 0) = false := by rw [beq_eq_false_iff_ne]; exact xnum0
                  clear xnum0
                  go_enter Tryd.func46, Tryd.ntmps46
                  go_wp2_with fail
                  go_ret
                  exact uses_false HB.out
              · have qnm0 : n.nm.toList.isEmpty = false := by rw [HE.out]; exact decide_eq_false xnm0
                clear xnm0
                go_enter Tryd.func46, Tryd.ntmps46
                go_wp2_with fail
                go_ret
                exact uses_false HB.out
            · have qu : ((n.un : Int) == 0) = false := by rw [beq_eq_false_iff_ne]; omega
              clear hu
              go_enter Tryd.func46, Tryd.ntmps46
              go_wp2_with fail
              go_ret
              exact uses_false HB.out
          · have qt : ((n.tn : Int) == 0) = false := by rw [beq_eq_false_iff_ne]; omega
            clear ht
            go_enter Tryd.func46, Tryd.ntmps46
            go_wp2_with fail
            go_ret
            exact uses_false HB.out
        · have q3 : (n.k == 3) = false := by rw [beq_eq_false_iff_ne]; exact h3
          clear h3
          by_cases h4 : n.k = 4
          · have q4 : (n.k == 4) = true := by rw [beq_iff_eq]; exact h4
            have HK := Lib.hid h4
            clear h4
            by_cases ht : n.tn = 0
            · have qt : ((n.tn : Int) == 0) = true := by rw [beq_iff_eq]; omega
              have HT0 := Lib.hid ht
              clear ht
              by_cases hu : n.un = 0
              · have qu : ((n.un : Int) == 0) = true := by rw [beq_iff_eq]; omega
                have HU0 := Lib.hid hu
                clear hu
                by_cases xnm0 : n.nm.size = 0
                · have qnm0 : n.nm.toList.isEmpty = true := by rw [HE.out]; exact decide_eq_true xnm0
                  have Knm0 := Lib.hid xnm0
                  clear xnm0
                  by_cases xnum0 : n.num = 0
                  · have qnum0 : (n.num == 0) = true := by rw [beq_iff_eq]; exact xnum0
                    have Knum0 := Lib.hid xnum0
                    clear xnum0
                    by_cases xmanyge : 0 ≤ n.many
                    · have qmanyge : decide (0 ≤ n.many) = true := by simpa using xmanyge
                      have Kmanyge := Lib.hid xmanyge
                      clear xmanyge
                      by_cases xmanyle : n.many ≤ 50
                      · have qmanyle : decide (n.many ≤ 50) = true := by simpa using xmanyle
                        have Kmanyle := Lib.hid xmanyle
                        clear xmanyle
                        have HU := Lib.hid (show UsesP n from ⟨.inr ⟨HT0.out, HU0.out⟩, .inr (.inr (.inr (.inr (.inl ⟨HK.out, Knm0.out, Knum0.out, Kmanyge.out, Kmanyle.out⟩))))⟩)
                        go_enter Tryd.func46, Tryd.ntmps46
                        go_wp2_with fail
                        go_ret
                        exact uses_true HU.out HB.out
                      · have qmanyle : decide (n.many ≤ 50) = false := by simpa using xmanyle
                        clear xmanyle
                        go_enter Tryd.func46, Tryd.ntmps46
                        go_wp2_with fail
                        go_ret
                        exact uses_false HB.out
                    · have qmanyge : decide (0 ≤ n.many) = false := by simpa using xmanyge
                      clear xmanyge
                      go_enter Tryd.func46, Tryd.ntmps46
                      go_wp2_with fail
                      go_ret
                      exact uses_false HB.out
                  · have qnum0 : (n.num == 0) = false := by rw [beq_eq_false_iff_ne]; exact xnum0
                    clear xnum0
                    go_enter Tryd.func46, Tryd.ntmps46
                    go_wp2_with fail
                    go_ret
                    exact uses_false HB.out
                · have qnm0 : n.nm.toList.isEmpty = false := by rw [HE.out]; exact decide_eq_false xnm0
                  clear xnm0
                  go_enter Tryd.func46, Tryd.ntmps46
                  go_wp2_with fail
                  go_ret
                  exact uses_false HB.out
              · have qu : ((n.un : Int) == 0) = false := by rw [beq_eq_false_iff_ne]; omega
                clear hu
                go_enter Tryd.func46, Tryd.ntmps46
                go_wp2_with fail
                go_ret
                exact uses_false HB.out
            · have qt : ((n.tn : Int) == 0) = false := by rw [beq_eq_false_iff_ne]; omega
              clear ht
              go_enter Tryd.func46, Tryd.ntmps46
              go_wp2_with fail
              go_ret
              exact uses_false HB.out
          · have q4 : (n.k == 4) = false := by rw [beq_eq_false_iff_ne]; exact h4
            clear h4
            by_cases h5 : n.k = 5
            · have q5 : (n.k == 5) = true := by rw [beq_iff_eq]; exact h5
              have HK := Lib.hid h5
              clear h5
              by_cases ht : n.tn = 0
              · have qt : ((n.tn : Int) == 0) = true := by rw [beq_iff_eq]; omega
                have HT0 := Lib.hid ht
                clear ht
                by_cases hu : n.un = 0
                · have qu : ((n.un : Int) == 0) = true := by rw [beq_iff_eq]; omega
                  have HU0 := Lib.hid hu
                  clear hu
                  by_cases xtag : tagL n.nm.data.toList = true
                  · have Ktag := Lib.hid xtag
                    by_cases xnum0 : n.num = 0
                    · have qnum0 : (n.num == 0) = true := by rw [beq_iff_eq]; exact xnum0
                      have Knum0 := Lib.hid xnum0
                      clear xnum0
                      by_cases xmany0 : n.many = 0
                      · have qmany0 : (n.many == 0) = true := by rw [beq_iff_eq]; exact xmany0
                        have Kmany0 := Lib.hid xmany0
                        clear xmany0
                        have HU := Lib.hid (show UsesP n from ⟨.inr ⟨HT0.out, HU0.out⟩, .inr (.inr (.inr (.inr (.inr (.inl ⟨HK.out, Ktag.out, Knum0.out, Kmany0.out⟩)))))⟩)
                        go_enter Tryd.func46, Tryd.ntmps46
                        go_wp2_with fail
                        refine (HTG.out _).mono ?_
                        rintro e w4 ⟨rfl, rfl⟩
                        dsimp only
                        go_wp2_with fail
                        go_ret
                        exact uses_true HU.out HB.out
                      · have qmany0 : (n.many == 0) = false := by rw [beq_eq_false_iff_ne]; exact xmany0
                        clear xmany0
                        go_enter Tryd.func46, Tryd.ntmps46
                        go_wp2_with fail
                        refine (HTG.out _).mono ?_
                        rintro e w4 ⟨rfl, rfl⟩
                        dsimp only
                        go_wp2_with fail
                        go_ret
                        exact uses_false HB.out
                    · have qnum0 : (n.num == 0) = false := by rw [beq_eq_false_iff_ne]; exact xnum0
                      clear xnum0
                      go_enter Tryd.func46, Tryd.ntmps46
                      go_wp2_with fail
                      refine (HTG.out _).mono ?_
                      rintro e w4 ⟨rfl, rfl⟩
                      dsimp only
                      go_wp2_with fail
                      go_ret
                      exact uses_false HB.out
                  · have xtag2 : tagL n.nm.data.toList = false := by simpa using xtag
                    clear xtag
                    go_enter Tryd.func46, Tryd.ntmps46
                    go_wp2_with fail
                    refine (HTG.out _).mono ?_
                    rintro e w4 ⟨rfl, rfl⟩
                    dsimp only
                    go_wp2_with fail
                    go_ret
                    exact uses_false HB.out
                · have qu : ((n.un : Int) == 0) = false := by rw [beq_eq_false_iff_ne]; omega
                  clear hu
                  go_enter Tryd.func46, Tryd.ntmps46
                  go_wp2_with fail
                  go_ret
                  exact uses_false HB.out
              · have qt : ((n.tn : Int) == 0) = false := by rw [beq_eq_false_iff_ne]; omega
                clear ht
                go_enter Tryd.func46, Tryd.ntmps46
                go_wp2_with fail
                go_ret
                exact uses_false HB.out
            · have q5 : (n.k == 5) = false := by rw [beq_eq_false_iff_ne]; exact h5
              clear h5
              by_cases h6 : n.k = 6
              · have q6 : (n.k == 6) = true := by rw [beq_iff_eq]; exact h6
                have HK := Lib.hid h6
                clear h6
                by_cases ht : n.tn = 0
                · have qt : ((n.tn : Int) == 0) = true := by rw [beq_iff_eq]; omega
                  have HT0 := Lib.hid ht
                  clear ht
                  by_cases hu : n.un = 0
                  · have qu : ((n.un : Int) == 0) = true := by rw [beq_iff_eq]; omega
                    have HU0 := Lib.hid hu
                    clear hu
                    by_cases xnm0 : n.nm.size = 0
                    · have qnm0 : n.nm.toList.isEmpty = true := by rw [HE.out]; exact decide_eq_true xnm0
                      have Knm0 := Lib.hid xnm0
                      clear xnm0
                      by_cases xnumge : 0 ≤ n.num
                      · have qnumge : decide (0 ≤ n.num) = true := by simpa using xnumge
                        have Knumge := Lib.hid xnumge
                        clear xnumge
                        by_cases xmany0 : n.many = 0
                        · have qmany0 : (n.many == 0) = true := by rw [beq_iff_eq]; exact xmany0
                          have Kmany0 := Lib.hid xmany0
                          clear xmany0
                          have HU := Lib.hid (show UsesP n from ⟨.inr ⟨HT0.out, HU0.out⟩, .inr (.inr (.inr (.inr (.inr (.inr (.inl ⟨HK.out, Knm0.out, Knumge.out, Kmany0.out⟩))))))⟩)
                          go_enter Tryd.func46, Tryd.ntmps46
                          go_wp2_with fail
                          go_ret
                          exact uses_true HU.out HB.out
                        · have qmany0 : (n.many == 0) = false := by rw [beq_eq_false_iff_ne]; exact xmany0
                          clear xmany0
                          go_enter Tryd.func46, Tryd.ntmps46
                          go_wp2_with fail
                          go_ret
                          exact uses_false HB.out
                      · have qnumge : decide (0 ≤ n.num) = false := by simpa using xnumge
                        clear xnumge
                        go_enter Tryd.func46, Tryd.ntmps46
                        go_wp2_with fail
                        go_ret
                        exact uses_false HB.out
                    · have qnm0 : n.nm.toList.isEmpty = false := by rw [HE.out]; exact decide_eq_false xnm0
                      clear xnm0
                      go_enter Tryd.func46, Tryd.ntmps46
                      go_wp2_with fail
                      go_ret
                      exact uses_false HB.out
                  · have qu : ((n.un : Int) == 0) = false := by rw [beq_eq_false_iff_ne]; omega
                    clear hu
                    go_enter Tryd.func46, Tryd.ntmps46
                    go_wp2_with fail
                    go_ret
                    exact uses_false HB.out
                · have qt : ((n.tn : Int) == 0) = false := by rw [beq_eq_false_iff_ne]; omega
                  clear ht
                  go_enter Tryd.func46, Tryd.ntmps46
                  go_wp2_with fail
                  go_ret
                  exact uses_false HB.out
              · have q6 : (n.k == 6) = false := by rw [beq_eq_false_iff_ne]; exact h6
                clear h6
                by_cases h7 : n.k = 7
                · have q7 : (n.k == 7) = true := by rw [beq_iff_eq]; exact h7
                  have HK := Lib.hid h7
                  clear h7
                  by_cases ht : n.tn = 0
                  · have qt : ((n.tn : Int) == 0) = true := by rw [beq_iff_eq]; omega
                    have HT0 := Lib.hid ht
                    clear ht
                    by_cases hu : n.un = 0
                    · have qu : ((n.un : Int) == 0) = true := by rw [beq_iff_eq]; omega
                      have HU0 := Lib.hid hu
                      clear hu
                      by_cases xnm0 : n.nm.size = 0
                      · have qnm0 : n.nm.toList.isEmpty = true := by rw [HE.out]; exact decide_eq_true xnm0
                        have Knm0 := Lib.hid xnm0
                        clear xnm0
                        by_cases xnumge : 0 ≤ n.num
                        · have qnumge : decide (0 ≤ n.num) = true := by simpa using xnumge
                          have Knumge := Lib.hid xnumge
                          clear xnumge
                          by_cases xmany0 : n.many = 0
                          · have qmany0 : (n.many == 0) = true := by rw [beq_iff_eq]; exact xmany0
                            have Kmany0 := Lib.hid xmany0
                            clear xmany0
                            have HU := Lib.hid (show UsesP n from ⟨.inl HK.out, .inr (.inr (.inr (.inr (.inr (.inr (.inr (⟨HK.out, Knm0.out, Knumge.out, Kmany0.out⟩)))))))⟩)
                            go_enter Tryd.func46, Tryd.ntmps46
                            go_wp2_with fail
                            refine HWR.out.mono ?_
                            rintro e w4 ⟨bo, rfl, q4⟩
                            dsimp only
                            have HB4 := Lib.hid (HB.out.trans (q4.mono HB.out.size))
                            clear q4
                            go_wp2_with fail
                            go_ret
                            exact uses_true HU.out HB4.out
                          · have qmany0 : (n.many == 0) = false := by rw [beq_eq_false_iff_ne]; exact xmany0
                            clear xmany0
                            go_enter Tryd.func46, Tryd.ntmps46
                            go_wp2_with fail
                            go_ret
                            exact uses_false HB.out
                        · have qnumge : decide (0 ≤ n.num) = false := by simpa using xnumge
                          clear xnumge
                          go_enter Tryd.func46, Tryd.ntmps46
                          go_wp2_with fail
                          go_ret
                          exact uses_false HB.out
                      · have qnm0 : n.nm.toList.isEmpty = false := by rw [HE.out]; exact decide_eq_false xnm0
                        clear xnm0
                        go_enter Tryd.func46, Tryd.ntmps46
                        go_wp2_with fail
                        go_ret
                        exact uses_false HB.out
                    · have qu : ((n.un : Int) == 0) = false := by rw [beq_eq_false_iff_ne]; omega
                      clear hu
                      by_cases xnm0 : n.nm.size = 0
                      · have qnm0 : n.nm.toList.isEmpty = true := by rw [HE.out]; exact decide_eq_true xnm0
                        have Knm0 := Lib.hid xnm0
                        clear xnm0
                        by_cases xnumge : 0 ≤ n.num
                        · have qnumge : decide (0 ≤ n.num) = true := by simpa using xnumge
                          have Knumge := Lib.hid xnumge
                          clear xnumge
                          by_cases xmany0 : n.many = 0
                          · have qmany0 : (n.many == 0) = true := by rw [beq_iff_eq]; exact xmany0
                            have Kmany0 := Lib.hid xmany0
                            clear xmany0
                            have HU := Lib.hid (show UsesP n from ⟨.inl HK.out, .inr (.inr (.inr (.inr (.inr (.inr (.inr (⟨HK.out, Knm0.out, Knumge.out, Kmany0.out⟩)))))))⟩)
                            go_enter Tryd.func46, Tryd.ntmps46
                            go_wp2_with fail
                            refine HWR.out.mono ?_
                            rintro e w4 ⟨bo, rfl, q4⟩
                            dsimp only
                            have HB4 := Lib.hid (HB.out.trans (q4.mono HB.out.size))
                            clear q4
                            go_wp2_with fail
                            go_ret
                            exact uses_true HU.out HB4.out
                          · have qmany0 : (n.many == 0) = false := by rw [beq_eq_false_iff_ne]; exact xmany0
                            clear xmany0
                            go_enter Tryd.func46, Tryd.ntmps46
                            go_wp2_with fail
                            go_ret
                            exact uses_false HB.out
                        · have qnumge : decide (0 ≤ n.num) = false := by simpa using xnumge
                          clear xnumge
                          go_enter Tryd.func46, Tryd.ntmps46
                          go_wp2_with fail
                          go_ret
                          exact uses_false HB.out
                      · have qnm0 : n.nm.toList.isEmpty = false := by rw [HE.out]; exact decide_eq_false xnm0
                        clear xnm0
                        go_enter Tryd.func46, Tryd.ntmps46
                        go_wp2_with fail
                        go_ret
                        exact uses_false HB.out
                  · have qt : ((n.tn : Int) == 0) = false := by rw [beq_eq_false_iff_ne]; omega
                    clear ht
                    by_cases xnm0 : n.nm.size = 0
                    · have qnm0 : n.nm.toList.isEmpty = true := by rw [HE.out]; exact decide_eq_true xnm0
                      have Knm0 := Lib.hid xnm0
                      clear xnm0
                      by_cases xnumge : 0 ≤ n.num
                      · have qnumge : decide (0 ≤ n.num) = true := by simpa using xnumge
                        have Knumge := Lib.hid xnumge
                        clear xnumge
                        by_cases xmany0 : n.many = 0
                        · have qmany0 : (n.many == 0) = true := by rw [beq_iff_eq]; exact xmany0
                          have Kmany0 := Lib.hid xmany0
                          clear xmany0
                          have HU := Lib.hid (show UsesP n from ⟨.inl HK.out, .inr (.inr (.inr (.inr (.inr (.inr (.inr (⟨HK.out, Knm0.out, Knumge.out, Kmany0.out⟩)))))))⟩)
                          go_enter Tryd.func46, Tryd.ntmps46
                          go_wp2_with fail
                          refine HWR.out.mono ?_
                          rintro e w4 ⟨bo, rfl, q4⟩
                          dsimp only
                          have HB4 := Lib.hid (HB.out.trans (q4.mono HB.out.size))
                          clear q4
                          go_wp2_with fail
                          go_ret
                          exact uses_true HU.out HB4.out
                        · have qmany0 : (n.many == 0) = false := by rw [beq_eq_false_iff_ne]; exact xmany0
                          clear xmany0
                          go_enter Tryd.func46, Tryd.ntmps46
                          go_wp2_with fail
                          go_ret
                          exact uses_false HB.out
                      · have qnumge : decide (0 ≤ n.num) = false := by simpa using xnumge
                        clear xnumge
                        go_enter Tryd.func46, Tryd.ntmps46
                        go_wp2_with fail
                        go_ret
                        exact uses_false HB.out
                    · have qnm0 : n.nm.toList.isEmpty = false := by rw [HE.out]; exact decide_eq_false xnm0
                      clear xnm0
                      go_enter Tryd.func46, Tryd.ntmps46
                      go_wp2_with fail
                      go_ret
                      exact uses_false HB.out
                · have q7 : (n.k == 7) = false := by rw [beq_eq_false_iff_ne]; exact h7
                  clear h7
                  obtain ⟨tb, htb⟩ : ∃ tb, ((n.tn : Int) == 0) = tb := ⟨_, rfl⟩
                  obtain ⟨ub, hub⟩ : ∃ ub, ((n.un : Int) == 0) = ub := ⟨_, rfl⟩
                  cases tb <;> cases ub
                  all_goals (go_enter Tryd.func46, Tryd.ntmps46; go_wp2_with fail; go_ret; exact uses_false HB.out)
end Shw
end Go.Proofs.YthamcklkmchkiaaDoor
