/-
  DERIVED. THE STATEMENT LexQuoted, WALKED.
-/
import Derived.Test.YtelejpajnemmfaaDoorLxAlive
import Derived.Test.YtelejpajnemmfaaDoorLxPure3
namespace Go.Proofs.YtelejpajnemmfaaDoor
open Go.RowKit
namespace Lxw
open Gl Lx Glw

set_option maxHeartbeats 4000000 in
set_option maxRecDepth 100000 in
theorem law_quoted (a s : ByteArray) (w : World) (hE : Env w) : Calls Tryd.prog 9 #[.string a, .string s] w fun e w' => e = .returned (.bool true) ∧ Below w.heap.size w w' := by
  have HE := Lib.hid hE
  clear hE
  by_cases h : 1000 < a.size
  · have h' : (1000 : Int) < a.size := by omega
    go_enter Tryd.func9, Tryd.ntmps9
    go_wp2_with fail
    refine (alive _ HE.out).mono ?_
    rintro e w1 ⟨rfl, b1⟩
    dsimp only
    go_wp2
    go_ret
    exact ⟨rfl, b1⟩
  · have h' : (a.size : Int) ≤ 1000 := by omega
    by_cases h2 : 1000 < s.size
    · have h2' : (1000 : Int) < s.size := by omega
      go_enter Tryd.func9, Tryd.ntmps9
      go_wp2_with fail
      refine (alive _ HE.out).mono ?_
      rintro e w1 ⟨rfl, b1⟩
      dsimp only
      go_wp2
      go_ret
      exact ⟨rfl, b1⟩
    · have h2' : (s.size : Int) ≤ 1000 := by omega
      have hq := refQuote a
      have hql := quoteL_length a.data.toList
      rw [size_data] at hql
      have hqs : (⟨(quoteL a.data.toList).toArray⟩ : ByteArray).size = (quoteL a.data.toList).length := mk_size _
      have htq := tokL_quoted a.data.toList s.data.toList
      have hdat : (⟨(quoteL a.data.toList).toArray⟩ ++ s : ByteArray).data.toList = quoteL a.data.toList ++ s.data.toList := app_data _ _
      rw [← hdat, ← hqs] at htq
      obtain ⟨q, hQ⟩ : ∃ q : ByteArray, (⟨(quoteL a.data.toList).toArray⟩ : ByteArray) = q := ⟨_, rfl⟩
      rw [hQ] at htq
      have hqs4 : q.size ≤ 4002 := by rw [← hQ]; omega
      have hqs2 : 2 ≤ q.size := by rw [← hQ]; omega
      have HQ := Lib.hid (fun w => (refQuote a w (by omega)))
      simp only [hQ] at HQ
      have t1 : (9223372036854775807 < q.size + s.size) = False := by simp; omega
      have hsz : (q ++ s : ByteArray).size ≤ 100000 := by rw [ByteArray.size_append]; omega
      have hss : s.size ≤ 100000 := by omega
      clear h h2 hql hqs hdat hQ hq
      cases hA : tokL 0 s.data.toList with
      | inl p =>
        rw [hA] at htq
        simp only at htq
        have HA := Lib.hid hA
        have HT := Lib.hid htq
        have k1 : IntKind.i64.wrap ((p : Int) + (q.size : Int)) = ((p + q.size : Nat) : Int) := by
          have := tokL_errF s.data.toList.length s.data.toList 0 p (Nat.le_refl _) hA
          rw [size_data] at this
          rw [IntWalk.i64_in _ (by omega)]; omega
        clear hA htq
        go_enter Tryd.func9, Tryd.ntmps9
        go_wp2_with fail
        refine (HQ.out _).mono ?_
        rintro e w1 ⟨rfl, rfl⟩
        dsimp only
        go_wp2_with fail
        refine (Tokens_no (q ++ s) _ hsz HE.out _ HT.out).mono ?_
        rintro e w2 ⟨rfl, b2⟩
        have HB2 := Lib.hid b2
        clear b2
        dsimp only
        go_wp2_with fail
        refine (Tokens_no s _ hss (HE.out.below HB2.out) _ HA.out).mono ?_
        rintro e w3 ⟨rfl, b3⟩
        have HB3 := Lib.hid (HB2.out.trans (b3.mono HB2.out.size))
        clear b3 HB2
        dsimp only
        go_wp2_with fail
        refine (alive _ (HE.out.below HB3.out)).mono ?_
        rintro e w4 ⟨rfl, b4⟩
        dsimp only
        go_wp2
        go_ret
        exact ⟨rfl, HB3.out.trans (b4.mono HB3.out.size)⟩
      | inr ts =>
        rw [hA] at htq
        simp only at htq
        have hmany := tokL_many _ 0 ts hA
        have hle := tokL_le _ ts hA
        simp only [size_data] at hmany hle
        have HLE := Lib.hid hle
        have hN : ((⟨4, a.data.toList, 0, q.size⟩ : Tok) :: ts.map (shiftT q.size)).length = ts.length + 1 := by simp
        have HN := Lib.hid hN
        have HA := Lib.hid hA
        have HT := Lib.hid htq
        have hn1 : (ts.length : Int) ≤ 1001 := by omega
        clear hA htq hmany hle hN
        go_enter Tryd.func9, Tryd.ntmps9
        go_wp2_with fail
        refine (HQ.out _).mono ?_
        rintro e w1 ⟨rfl, rfl⟩
        dsimp only
        go_wp2_with fail
        refine (Tokens_ok (q ++ s) _ hsz HE.out _ HT.out).mono ?_
        rintro e w2 ⟨g, cap, rfl, hg, hR, b2⟩
        have HR2 := Lib.hid hR
        have HB2 := Lib.hid b2
        clear b2 hR hg
        rw [HN.out]
        dsimp only
        go_wp2_with fail
        refine (Tokens_ok s _ hss (HE.out.below HB2.out) _ HA.out).mono ?_
        rintro e w3 ⟨g', cap', rfl, hg', hR', b3⟩
        have HR3 := Lib.hid (HR2.out.below b3)
        have HR3' := Lib.hid hR'
        have HB3 := Lib.hid (HB2.out.trans (b3.mono HB2.out.size))
        clear b3 HB2 hR' hg' HR2
        obtain ⟨e0, e1, e2, e3⟩ := HR3.out.2 0 (t4 ⟨4, a.data.toList, 0, q.size⟩) rfl
        simp only [t4, Nat.zero_mul, Nat.zero_add] at e0 e1 e2 e3
        rw [show (⟨a.data.toList.toArray⟩ : ByteArray) = a from rfl] at e1
        dsimp only
        go_wp2_with fail
        clear e0 e1 e2 e3
        go_loopw [12] (fun i wr => ∃ k : Nat, i = .int .i64 k ∧ k ≤ ts.length ∧ Below w3.heap.size w3 wr) (fun i _ => ts.length - (intOf i).toNat)
        case atStart => exact ⟨0, rfl, Nat.zero_le _, Below.refl _ _⟩
        case round =>
          obtain ⟨k, rfl, hk, hB⟩ := hrel
          have HBr := Lib.hid hB
          have HR4 := Lib.hid (HR3.out.below hB)
          have HR4' := Lib.hid (HR3'.out.below hB)
          clear hB
          by_cases hlt : k < ts.length
          · obtain ⟨t, ht⟩ : ∃ t, ts[k]? = some t := ⟨ts[k], List.getElem?_eq_getElem hlt⟩
            obtain ⟨e0, e1, e2, _⟩ := HR4.out.2 (k + 1) (t4 (shiftT q.size t)) (by rw [List.getElem?_map, List.getElem?_cons_succ, List.getElem?_map, ht]; rfl)
            obtain ⟨e0', e1', e2', _⟩ := HR4'.out.2 k (t4 t) (by rw [List.getElem?_map, ht]; rfl)
            rw [Nat.zero_add] at e0 e1 e2 e0' e1' e2'
            have hlo := (HLE.out t (List.mem_of_getElem? ht)).1
            simp only [t4, shiftT] at e0 e1 e2 e0' e1' e2'
            rw [show ((t.lo + q.size : Nat) : Int) = (t.lo : Int) + (q.size : Int) from by omega] at e2
            generalize (⟨t.text.toArray⟩ : ByteArray) = y at e1 e1'
            generalize (t.kind : Int) = K at e0 e0'
            generalize t.lo = lo at e2 e2' hlo
            have hlt' : (k : Int) < ts.length := by omega
            have hk0 : (0 : Int) ≤ k := by omega
            have k1 : IntKind.i64.wrap ((k : Int) + 1) = (k : Int) + 1 := IntWalk.i64_in _ (by omega)
            have k2 : (0 : Int) ≤ (k : Int) + 1 := by omega
            have k3 : (k : Int) + 1 < (ts.length : Int) + 1 := by omega
            have k4 : ((k : Int) + 1).toNat = k + 1 := by omega
            have k5 : IntKind.i64.wrap ((lo : Int) + (q.size : Int)) = (lo : Int) + (q.size : Int) := IntWalk.i64_in _ (by omega)
            have q1 : (K != K) = false := by simp
            clear ht
            go_wp2_with fail
            go_quiet (fail)
            go_wp2_with fail
            refine ⟨⟨k + 1, by simp, by omega, below_drewN' HBr.out _⟩, by simp [intOf]; omega⟩
          · have hlt' : ¬ (k : Int) < ts.length := by omega
            go_wp2_with fail
            refine (alive _ (HE.out.below (HB3.out.trans (HBr.out.mono HB3.out.size)))).mono ?_
            rintro e w5 ⟨rfl, b5⟩
            dsimp only
            go_wp2
            go_ret
            exact ⟨rfl, (HB3.out.trans (HBr.out.mono HB3.out.size)).trans (b5.mono (by have := HB3.out.size; have := HBr.out.size; omega))⟩
end Lxw
end Go.Proofs.YtelejpajnemmfaaDoor
