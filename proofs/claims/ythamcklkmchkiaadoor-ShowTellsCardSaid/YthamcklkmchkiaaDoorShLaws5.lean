/-
  DERIVED. THE STATEMENT ShowOne, WALKED.
-/
import Derived.Test.YthamcklkmchkiaaDoorShSame
namespace Go.Proofs.YthamcklkmchkiaaDoor
open Go.RowKit
namespace Sh
mutual
theorem plain_nodes : ∀ (t : VT), okT t → ∀ n ∈ flatT (plainT t), (n.tn = 0 ∧ n.un = 0) ∧ (n ∈ flatT t ∨ ∃ m ∈ flatT t, n = funN m)
  | .mk m ts, hok, n, hn => by
    rw [okT] at hok
    rw [plainT] at hn
    split at hn
    · rw [flatT, flatTs] at hn
      obtain rfl := List.mem_singleton.1 hn
      exact ⟨⟨rfl, rfl⟩, .inr ⟨m, by rw [flatT]; simp, rfl⟩⟩
    · rename_i h67
      rw [flatT] at hn ⊢
      rcases List.mem_cons.1 hn with rfl | hn
      · refine ⟨?_, .inl (by simp)⟩
        rcases hok.1.1 with h | h
        · exact absurd (.inr h) h67
        · exact h
      · have h := plain_nodess ts hok.2.2.2 n hn
        refine ⟨h.1, ?_⟩
        rcases h.2 with h | ⟨x, hx, e⟩
        · exact .inl (by simp [h])
        · exact .inr ⟨x, by simp [hx], e⟩
theorem plain_nodess : ∀ (ts : List VT), okTs ts → ∀ n ∈ flatTs (plainTs ts), (n.tn = 0 ∧ n.un = 0) ∧ (n ∈ flatTs ts ∨ ∃ m ∈ flatTs ts, n = funN m)
  | [], _, n, hn => by rw [plainTs, flatTs] at hn; simp at hn
  | t :: ts, hok, n, hn => by
    rw [okTs] at hok
    rw [plainTs, flatTs] at hn
    rw [flatTs]
    rcases List.mem_append.1 hn with hn | hn
    · have h := plain_nodes t hok.1 n hn
      refine ⟨h.1, ?_⟩
      rcases h.2 with h | ⟨x, hx, e⟩
      · exact .inl (by simp [h])
      · exact .inr ⟨x, by simp [hx], e⟩
    · have h := plain_nodess ts hok.2 n hn
      refine ⟨h.1, ?_⟩
      rcases h.2 with h | ⟨x, hx, e⟩
      · exact .inl (by simp [h])
      · exact .inr ⟨x, by simp [hx], e⟩
end
end Sh
namespace Shw
open Gl Glw Sh

def FewA (w : World) (v : Go.Value) : Prop := (∃ A c, v = .slice A 0 c) ∨ ∃ b off cap, ∃ L : List VN, v = .slice (some ⟨b, off, none⟩) L.length cap ∧ VIn w b off cap L ∧ FewP 60 L
def GoodA (w : World) (v : Go.Value) : Prop := ∃ b off cap, ∃ t : VT, v = .slice (some ⟨b, off, none⟩) (flatT t).length cap ∧ VIn w b off cap (flatT t) ∧ FewP 60 (flatT t) ∧ okT t ∧ (rootT t).lab = ⟨#[]⟩
theorem TyIn0.since {w w' : World} {A : Option Addr} {m c : Nat} (h : TyIn0 w A m c) (hb : Below w.heap.size w w') : TyIn0 w' A m c := by
  rcases h with h | ⟨b, off, L, h1, h2, h3, h5, h6⟩
  · exact .inl h
  · exact .inr ⟨b, off, L, h1, h2, h3, h5.since h5.1 hb, h6⟩
theorem VIn.since {w w' : World} {b off cap : Nat} {L : List VN} (h : VIn w b off cap L) (hb : Below w.heap.size w w') : VIn w' b off cap L :=
  { ne := h.ne, le := h.le, most := h.most, rd := h.rd.since h.rd.1 hb, ty := fun n hn => ⟨(h.ty n hn).1.since hb, (h.ty n hn).2.since hb⟩, fit := h.fit, num := h.num }
theorem FewA.since {w w' : World} {v : Go.Value} (h : FewA w v) (hb : Below w.heap.size w w') : FewA w' v := by
  rcases h with h | ⟨b, off, cap, L, h1, h2, h3⟩
  · exact .inl h
  · exact .inr ⟨b, off, cap, L, h1, h2.since hb, h3⟩
def FewAPost (v : Go.Value) (w : World) (e : Ending) (w' : World) : Prop := ∃ bo : Bool, e = .returned (.bool bo) ∧ (bo = true → FewA w v) ∧ w = w'
theorem arg_few {w : World} {v : Go.Value} (h : ValArg w v) : Calls Tryd.prog 14 #[v, .int .i64 60] w (FewAPost v w) := by
  rcases h with ⟨A, c, rfl⟩ | ⟨b, off, cap, L, rfl, hV⟩
  · exact (Few19_none A c 60 w).mono fun e w' ⟨h1, h2⟩ => ⟨true, h1, fun _ => .inl ⟨A, c, rfl⟩, h2⟩
  · exact (Few19 b off cap 60 L (by omega) w hV.rd hV.most).mono fun e w' ⟨bo, h1, h2, h3⟩ => ⟨bo, h1, fun hb => .inr ⟨b, off, cap, L, rfl, hV, h2.1 hb⟩, h3⟩
def RightAPost (v : Go.Value) (w : World) (e : Ending) (w' : World) : Prop := ∃ bo : Bool, e = .returned (.bool bo) ∧ (bo = true → GoodA w v) ∧ Below w.heap.size w w'
theorem arg_right {w : World} {v : Go.Value} (h : FewA w v) : Calls Tryd.prog 15 #[v] w (RightAPost v w) := by
  rcases h with ⟨A, c, rfl⟩ | ⟨b, off, cap, L, rfl, hV, hf⟩
  · exact (Right19_none A c w).mono fun e w' ⟨h1, h2⟩ => ⟨false, h1, fun h => by simp at h, h2⟩
  · have hl := hf.1
    refine (Right19 b off cap L hV.ne hV.le (by omega) w hV.rd (hV.tys hf) hV.fit).mono fun e w' ⟨bo, h1, h2, h3⟩ => ⟨bo, h1, fun hb => ?_, h3⟩
    obtain ⟨t, ht, hok⟩ := tree_of (h2 hb).1 (by omega)
    subst ht
    refine ⟨b, off, cap, t, rfl, hV, hf, hok, nm_nil ((h2 hb).2 _ ?_)⟩
    rw [flatT_eq]; rfl

/-- A value that is right, shown. -/
theorem good_value {w : World} {b off cap : Nat} {t : VT} (hV : VIn w b off cap (flatT t)) (hf : FewP 60 (flatT t)) (hok : okT t) (hE : Env w) :
    Calls Tryd.prog 17 #[.slice (some ⟨b, off, none⟩) (flatT t).length cap] w fun e w' => e = .returned (.string ⟨(showT t).toArray⟩) ∧ Below w.heap.size w w' :=
  Value b off cap (flatT t) _ _ _ (showF_L hok (Nat.le_refl _)) w hV.rd hE (hV.ok hf) (by have := hf.1; omega)
theorem plain_value {w : World} {b off cap g c : Nat} {t : VT} {w0 : World} (hV : VIn w0 b off cap (flatT t)) (hf : FewP 60 (flatT t)) (hok : okT t) (hR : RdV w g 0 (flatT (plainT t))) (hE : Env w) :
    Calls Tryd.prog 17 #[.slice (some ⟨g, 0, none⟩) (flatT (plainT t)).length c] w fun e w' => e = .returned (.string ⟨(showT t).toArray⟩) ∧ Below w.heap.size w w' := by
  rw [← plain_show t]
  refine Value g 0 c (flatT (plainT t)) _ _ _ (showF_L (plain_ok t hok) (Nat.le_refl _)) w hR hE (fun n hn => ?_) (by have := hf.1; have := plain_le t; omega)
  rcases (plain_nodes t hok n hn).2 with h | ⟨m, hm, rfl⟩
  · exact hV.ok hf n h
  · have := (hV.ok hf m hm)
    exact ⟨(by decide : (-9223372036854775808 : Int) ≤ 0), (by decide : (0 : Int) ≤ 9223372036854775807), this.2.2.1, (by decide : (⟨#[]⟩ : ByteArray).size ≤ 1000)⟩

set_option maxHeartbeats 8000000 in
set_option maxRecDepth 100000 in
theorem law_one_arg {v u : Go.Value} {w : World} (hv : ValArg w v) (hu : ValArg w u) (hE : Env w) :
    Calls Tryd.prog 4 #[v, u] w fun en w' => en = .returned (.bool true) ∧ Below w.heap.size w w' := by
  have HE := Lib.hid hE
  have HF1 := Lib.hid (arg_few hv)
  have HF2 := Lib.hid (arg_few hu)
  clear hE hv hu
  go_enter Tryd.func4, Tryd.ntmps4
  go_wp2_with fail
  refine HF1.out.mono ?_
  rintro en w0 ⟨bo, rfl, hb, rfl⟩
  dsimp only
  have HA1 := Lib.hid hb
  clear hb HF1
  cases bo with
  | false =>
    go_wp2_with fail
    refine (alive _ HE.out).mono ?_
    rintro en w1 ⟨rfl, b1⟩
    dsimp only
    have HB1 := Lib.hid b1
    clear b1
    go_wp2_with fail
    go_ret
    exact ⟨rfl, HB1.out⟩
  | true =>
    go_wp2_with fail
    refine HF2.out.mono ?_
    rintro en w0 ⟨bo, rfl, hb, rfl⟩
    dsimp only
    have HA2 := Lib.hid hb
    clear hb HF2
    cases bo with
    | false =>
      go_wp2_with fail
      refine (alive _ HE.out).mono ?_
      rintro en w1 ⟨rfl, b1⟩
      dsimp only
      have HB1 := Lib.hid b1
      clear b1
      go_wp2_with fail
      go_ret
      exact ⟨rfl, HB1.out⟩
    | true =>
      have HR1 := Lib.hid (arg_right (HA1.out (by simp)))
      go_wp2_with fail
      refine HR1.out.mono ?_
      rintro en w1 ⟨bo, rfl, hg, b1⟩
      dsimp only
      have HG1 := Lib.hid hg
      have HB1 := Lib.hid b1
      have HE1 := Lib.hid (HE.out.below b1)
      clear hg b1 HR1
      cases bo with
      | false =>
        go_wp2_with fail
        refine (alive _ HE1.out).mono ?_
        rintro en w2 ⟨rfl, b2⟩
        dsimp only
        have HB2 := Lib.hid (HB1.out.trans (b2.mono HB1.out.size))
        clear b2
        go_wp2_with fail
        go_ret
        exact ⟨rfl, HB2.out⟩
      | true =>
        have HR2 := Lib.hid (arg_right ((HA2.out (by simp)).since HB1.out))
        go_wp2_with fail
        refine HR2.out.mono ?_
        rintro en w2 ⟨bo, rfl, hg, b2⟩
        dsimp only
        have HG2 := Lib.hid hg
        have HB2 := Lib.hid (HB1.out.trans (b2.mono HB1.out.size))
        have HB12 := Lib.hid b2
        have HE2 := Lib.hid (HE1.out.below b2)
        clear hg b2 HR2
        cases bo with
        | false =>
          go_wp2_with fail
          refine (alive _ HE2.out).mono ?_
          rintro en w3 ⟨rfl, b3⟩
          dsimp only
          have HB3 := Lib.hid (HB2.out.trans (b3.mono HB2.out.size))
          clear b3
          go_wp2_with fail
          go_ret
          exact ⟨rfl, HB3.out⟩
        | true =>
          obtain ⟨b, off, cap, t, hv, hV, hf, hok, hlab⟩ := HG1.out (by simp)
          obtain ⟨b', off', cap', u', hu, hU, hf', hok', hlab'⟩ := HG2.out (by simp)
          subst hv hu
          have hone := show_one hok hok' (hlab.trans hlab'.symm)
          have HV0 := Lib.hid hV
          have HU2 := Lib.hid (hU.since HB12.out)
          have HFV := Lib.hid hf
          have HFU := Lib.hid hf'
          have HOV := Lib.hid hok
          have HOU := Lib.hid hok'
          have HONE := Lib.hid hone
          obtain ⟨y1, hy1⟩ : ∃ y : ByteArray, (⟨(showT t).toArray⟩ : ByteArray) = y := ⟨_, rfl⟩
          obtain ⟨y2, hy2⟩ : ∃ y : ByteArray, (⟨(showT u').toArray⟩ : ByteArray) = y := ⟨_, rfl⟩
          have HY1 := Lib.hid hy1
          have HY2 := Lib.hid hy2
          have hval1 := fun w hV hE => good_value (w := w) (b := b) (off := off) (cap := cap) hV hf hok hE
          have hval2 := fun w hV hE => good_value (w := w) (b := b') (off := off') (cap := cap') hV hf' hok' hE
          rw [hy1] at hval1
          rw [hy2] at hval2
          have HVAL1 := Lib.hid hval1
          have HVAL2 := Lib.hid hval2
          have hp1 := Plain19 1000 t hok (by have := hf.1; omega) (Nat.le_refl _) b off cap w2 hV.le (hV.rd.since hV.rd.1 HB2.out)
          have HP1 := Lib.hid hp1
          clear hV hU hf hf' hok hok' hone hy1 hy2 hval1 hval2 hp1 hlab hlab' HG1 HG2 HA1 HA2
          go_wp2_with fail
          refine HP1.out.mono ?_
          rintro en w3 ⟨g1, c1, rfl, hc1, hg1, hrd1, q3⟩
          dsimp only
          have HB3 := Lib.hid (HB2.out.trans (q3.mono HB2.out.size))
          have HE3 := Lib.hid (HE2.out.below q3)
          have RD1 := Lib.hid hrd1
          have HU3 := Lib.hid ((HU2.out).since q3)
          clear q3 hrd1 HP1
          have hp2 := Plain19 1000 u' HOU.out (by have := HFU.out.1; omega) (Nat.le_refl _) b' off' cap' w3 HU3.out.le HU3.out.rd
          have HP2 := Lib.hid hp2
          clear hp2
          go_wp2_with fail
          refine HP2.out.mono ?_
          rintro en w4 ⟨g2, c2, rfl, hc2, hg2, hrd2, q4⟩
          dsimp only
          have HB4 := Lib.hid (HB3.out.trans (q4.mono HB3.out.size))
          have HE4 := Lib.hid (HE3.out.below q4)
          have RD1a := Lib.hid (RD1.out.since RD1.out.1 q4)
          have RD2 := Lib.hid hrd2
          have HU4 := Lib.hid (HU3.out.since q4)
          clear q4 hrd2 HP2
          go_wp2_with fail
          refine (alive _ HE4.out).mono ?_
          rintro en w5 ⟨rfl, q5⟩
          dsimp only
          have HB5 := Lib.hid (HB4.out.trans (q5.mono HB4.out.size))
          have HE5 := Lib.hid (HE4.out.below q5)
          have RD1b := Lib.hid (RD1a.out.since RD1a.out.1 q5)
          have RD2b := Lib.hid (RD2.out.since RD2.out.1 q5)
          have HU5 := Lib.hid (HU4.out.since q5)
          clear q5
          go_wp2_with fail
          refine (HVAL1.out _ (HV0.out.since HB5.out) HE5.out).mono ?_
          rintro en w6 ⟨rfl, q6⟩
          dsimp only
          have HB6 := Lib.hid (HB5.out.trans (q6.mono HB5.out.size))
          have HE6 := Lib.hid (HE5.out.below q6)
          have RD1c := Lib.hid (RD1b.out.since RD1b.out.1 q6)
          have RD2c := Lib.hid (RD2b.out.since RD2b.out.1 q6)
          have HU6 := Lib.hid (HU5.out.since q6)
          clear q6
          go_wp2_with fail
          refine (HVAL2.out _ HU6.out HE6.out).mono ?_
          rintro en w7 ⟨rfl, q7⟩
          dsimp only
          have HB7 := Lib.hid (HB6.out.trans (q7.mono HB6.out.size))
          have HE7 := Lib.hid (HE6.out.below q7)
          have RD1d := Lib.hid (RD1c.out.since RD1c.out.1 q7)
          have RD2d := Lib.hid (RD2c.out.since RD2c.out.1 q7)
          clear q7
          have hsame := Same19 g1 0 c1 g2 0 c2 (flatT (plainT t)) (flatT (plainT u')) w7 RD1d.out RD2d.out (by have := HFV.out.1; have := plain_le t; omega) (fun n hn => (plain_nodes t HOV.out n hn).1) (fun n hn => (plain_nodes u' HOU.out n hn).1)
          have HSAME := Lib.hid hsame
          clear hsame
          have hpv := fun w hR hE => plain_value (w := w) (g := g1) (c := c1) HV0.out HFV.out HOV.out hR hE
          rw [HY1.out] at hpv
          have HPV := Lib.hid hpv
          clear hpv
          by_cases hs : showT t = showT u'
          · have qs : (y1.toList == y2.toList) = true := by rw [← HY1.out, ← HY2.out, hs]; simp
            have HS := Lib.hid (HONE.out.1 hs)
            clear hs
            go_wp2_with fail
            refine HSAME.out.mono ?_
            rintro en w8 ⟨bo, rfl, hbo, q8⟩
            dsimp only
            obtain rfl : bo = true := hbo.2 HS.out
            have HB8 := Lib.hid (HB7.out.trans (q8.mono HB7.out.size))
            have HE8 := Lib.hid (HE7.out.below q8)
            have RD1e := Lib.hid (RD1d.out.since RD1d.out.1 q8)
            clear q8 hbo
            go_wp2_with fail
            refine (HVAL1.out _ (HV0.out.since HB8.out) HE8.out).mono ?_
            rintro en w9 ⟨rfl, q9⟩
            dsimp only
            have HB9 := Lib.hid (HB8.out.trans (q9.mono HB8.out.size))
            have HE9 := Lib.hid (HE8.out.below q9)
            have RD1f := Lib.hid (RD1e.out.since RD1e.out.1 q9)
            clear q9
            go_wp2_with fail
            refine (HPV.out _ RD1f.out HE9.out).mono ?_
            rintro en w10 ⟨rfl, q10⟩
            dsimp only
            have HB10 := Lib.hid (HB9.out.trans (q10.mono HB9.out.size))
            clear q10
            go_wp2_with fail
            go_ret
            exact ⟨rfl, HB10.out⟩
          · have qs : (y1.toList == y2.toList) = false := by
              rw [beq_eq_false_iff_ne, toList_data, toList_data, ← HY1.out, ← HY2.out]
              exact hs
            have HS := Lib.hid (fun h => hs (HONE.out.2 h))
            clear hs
            go_wp2_with fail
            refine HSAME.out.mono ?_
            rintro en w8 ⟨bo, rfl, hbo, q8⟩
            dsimp only
            have hbf : bo = false := by
              cases bo with
              | false => rfl
              | true => exact absurd (hbo.1 rfl) HS.out
            subst hbf
            have HB8 := Lib.hid (HB7.out.trans (q8.mono HB7.out.size))
            have HE8 := Lib.hid (HE7.out.below q8)
            have RD1e := Lib.hid (RD1d.out.since RD1d.out.1 q8)
            clear q8 hbo
            go_wp2_with fail
            refine (HVAL1.out _ (HV0.out.since HB8.out) HE8.out).mono ?_
            rintro en w9 ⟨rfl, q9⟩
            dsimp only
            have HB9 := Lib.hid (HB8.out.trans (q9.mono HB8.out.size))
            have HE9 := Lib.hid (HE8.out.below q9)
            have RD1f := Lib.hid (RD1e.out.since RD1e.out.1 q9)
            clear q9
            go_wp2_with fail
            refine (HPV.out _ RD1f.out HE9.out).mono ?_
            rintro en w10 ⟨rfl, q10⟩
            dsimp only
            have HB10 := Lib.hid (HB9.out.trans (q10.mono HB9.out.size))
            clear q10
            go_wp2_with fail
            go_ret
            exact ⟨rfl, HB10.out⟩
end Shw
end Go.Proofs.YthamcklkmchkiaaDoor
