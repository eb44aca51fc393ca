/-
  DERIVED. THE STATEMENT LexBack, WALKED.
-/
import Derived.Test.YtelejpajnemmfaaDoorLxAlive
namespace Go.Proofs.YtelejpajnemmfaaDoor
open Go.RowKit
namespace Lxw
open Gl Lx Glw

theorem KT_at {ts us : List Tok} (h : us.map KT = ts.map KT) {k : Nat} {t : Tok} (ht : ts[k]? = some t) : ∃ u, us[k]? = some u ∧ u.kind = t.kind ∧ u.text = t.text := by
  have h1 := congrArg (fun l : List (Nat × List UInt8) => l[k]?) h
  simp only [List.getElem?_map, ht, Option.map_some] at h1
  cases hu : us[k]? with
  | none => rw [hu] at h1; simp at h1
  | some u =>
    rw [hu] at h1
    simp only [Option.map_some, KT, Option.some.injEq, Prod.mk.injEq] at h1
    exact ⟨u, rfl, h1.1, h1.2⟩

set_option maxHeartbeats 2000000 in
set_option maxRecDepth 100000 in
theorem law_back (s : ByteArray) (w : World) (hE : Env w) : Calls Tryd.prog 5 #[.string s] w fun e w' => e = .returned (.bool true) ∧ Below w.heap.size w w' := by
  have HE := Lib.hid hE
  clear hE
  by_cases h : 3000 < s.size
  · have h' : (3000 : Int) < s.size := by omega
    go_enter Tryd.func5, Tryd.ntmps5
    go_wp2_with fail
    refine (alive _ HE.out).mono ?_
    rintro e w1 ⟨rfl, b1⟩
    dsimp only
    go_wp2
    go_ret
    exact ⟨rfl, b1⟩
  · have h' : (s.size : Int) ≤ 3000 := by omega
    have hs : s.size ≤ 100000 := by omega
    have hs3 : s.size ≤ 3000 := by omega
    clear h
    cases hA : tokL 0 s.data.toList with
    | inl p =>
      have HA := Lib.hid hA
      clear hA
      go_enter Tryd.func5, Tryd.ntmps5
      go_wp2_with fail
      refine (Tokens_no s _ hs HE.out p HA.out).mono ?_
      rintro e w1 ⟨rfl, b1⟩
      have HB := Lib.hid b1
      clear b1
      dsimp only
      go_wp2_with fail
      refine (alive _ (HE.out.below HB.out)).mono ?_
      rintro e w2 ⟨rfl, b2⟩
      dsimp only
      go_wp2
      go_ret
      exact ⟨rfl, HB.out.trans (b2.mono HB.out.size)⟩
    | inr ts =>
      have hmany := tokL_many _ 0 ts hA
      have htext := tokL_text _ 0 ts hA
      obtain ⟨⟨us, hus, hkt⟩, hjl⟩ := back_plain hA
      rw [size_data] at hmany hjl
      simp only [size_data] at htext
      have hul : us.length = ts.length := by have := congrArg List.length hkt; simpa using this
      have hl4 : (ts.map t4).length = ts.length := by simp
      have hj4 := join4_toks ts
      have hjs : (⟨(join4 (ts.map t4)).toArray⟩ : ByteArray).size ≤ 100000 := by rw [hj4, mk_size]; omega
      have hjt : tokL 0 (⟨(join4 (ts.map t4)).toArray⟩ : ByteArray).data.toList = .inr us := by rw [hj4]; exact hus
      have HJ : ∀ (g c : Nat) (w : World), Rd4 w g 0 (ts.map t4) → Tabs w → Calls Tryd.prog 16 #[.slice (some ⟨g, 0, none⟩) ts.length c] w fun e w' => e = .returned (.string ⟨(join4 (ts.map t4)).toArray⟩) ∧ Below w.heap.size w w' := by
        intro g c w hR hT
        have := Join g 0 c (ts.map t4) w hR hT (by rw [hl4]; omega) (fun t ht => by
          obtain ⟨u, hu, rfl⟩ := List.mem_map.1 ht
          have := htext u hu
          show (⟨u.text.toArray⟩ : ByteArray).size ≤ _
          rw [mk_size]; omega) (by rw [hj4]; omega)
        rw [hl4] at this
        exact this
      have HJH := Lib.hid HJ
      obtain ⟨J, hJ⟩ : ∃ J : ByteArray, (⟨(join4 (ts.map t4)).toArray⟩ : ByteArray) = J := ⟨_, rfl⟩
      simp only [hJ] at HJH hjs
      have hjt : tokL 0 J.data.toList = .inr us := by rw [← hJ]; exact hjt
      have HA := Lib.hid hA
      have HKT := Lib.hid hkt
      have HJT := Lib.hid hjt
      have HUL := Lib.hid hul
      have hn1 : (ts.length : Int) ≤ 3001 := by omega
      clear hA hmany htext hus hkt hjl hul hl4 hj4 hjt HJ hJ
      go_enter Tryd.func5, Tryd.ntmps5
      go_wp2_with fail
      refine (Tokens_ok s _ hs HE.out ts HA.out).mono ?_
      rintro e w1 ⟨g, cap, rfl, hg, hR, b1⟩
      have HR := Lib.hid hR
      have HB := Lib.hid b1
      clear hR b1 hg
      dsimp only
      go_wp2_with fail
      refine (HJH.out g cap _ HR.out (HE.out.below HB.out).tabs).mono ?_
      rintro e w2 ⟨rfl, b2⟩
      have HR2 := Lib.hid (HR.out.below b2)
      have HB2 := Lib.hid (HB.out.trans (b2.mono HB.out.size))
      clear b2 HR HB
      dsimp only
      go_wp2_with fail
      refine (Tokens_ok J _ hjs (HE.out.below HB2.out) us HJT.out).mono ?_
      rintro e w3 ⟨g', cap', rfl, hg', hR', b3⟩
      have HR' := Lib.hid hR'
      have HR3 := Lib.hid (HR2.out.below b3)
      have HB3 := Lib.hid (HB2.out.trans (b3.mono HB2.out.size))
      clear b3 HR2 HB2 hR' hg'
      rw [HUL.out]
      dsimp only
      go_wp2_with fail
      go_loopw [9] (fun i wr => ∃ k : Nat, i = .int .i64 k ∧ k ≤ ts.length ∧ Below w3.heap.size w3 wr) (fun i _ => ts.length - (intOf i).toNat)
      case atStart => exact ⟨0, rfl, Nat.zero_le _, Below.refl _ _⟩
      case round =>
        obtain ⟨k, rfl, hk, hB⟩ := hrel
        have HBr := Lib.hid hB
        have HR4 := Lib.hid (HR3.out.below hB)
        have HR4' := Lib.hid (HR'.out.below hB)
        clear hB
        by_cases hlt : k < ts.length
        · obtain ⟨t, ht⟩ : ∃ t, ts[k]? = some t := ⟨ts[k], List.getElem?_eq_getElem hlt⟩
          obtain ⟨u, hu, hk1, hk2⟩ := KT_at HKT.out ht
          obtain ⟨e0, e1, _, _⟩ := HR4.out.2 k (t4 t) (by rw [List.getElem?_map, ht]; rfl)
          obtain ⟨e0', e1', _, _⟩ := HR4'.out.2 k (t4 u) (by rw [List.getElem?_map, hu]; rfl)
          rw [Nat.zero_add] at e0 e1 e0' e1'
          simp only [t4, hk1, hk2] at e0 e1 e0' e1'
          have hlt' : (k : Int) < ts.length := by omega
          have hk0 : (0 : Int) ≤ k := by omega
          generalize (⟨t.text.toArray⟩ : ByteArray) = y at e1 e1'
          generalize (t.kind : Int) = K at e0 e0'
          have q1 : (K != K) = false := by simp
          clear ht hu hk1 hk2
          go_wp2_with fail
          go_quiet (fail)
          go_wp2_with fail
          refine ⟨⟨k + 1, by simp, by omega, below_drewN' HBr.out _⟩, by simp [intOf]; omega⟩
        · have hlt' : ¬ (k : Int) < ts.length := by omega
          go_wp2_with fail
          refine (alive _ (HE.out.below (HB3.out.trans (HBr.out.mono HB3.out.size)))).mono ?_
          rintro e w5 ⟨rfl, b5⟩
          dsimp only
          go_wp2
          go_ret
          exact ⟨rfl, (HB3.out.trans (HBr.out.mono HB3.out.size)).trans (b5.mono (by have := HB3.out.size; have := HBr.out.size; omega))⟩
end Lxw
end Go.Proofs.YtelejpajnemmfaaDoor
