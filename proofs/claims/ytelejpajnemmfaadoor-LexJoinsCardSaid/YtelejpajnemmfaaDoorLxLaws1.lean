/-
  DERIVED. THE STATEMENTS LexTokens, LexJoins, LexBack, WALKED.
-/
import Derived.Test.YtelejpajnemmfaaDoorLxAlive
namespace Go.Proofs.YtelejpajnemmfaaDoor
open Go.RowKit
namespace Lxw
open Gl Lx Glw

set_option maxHeartbeats 2000000 in
set_option maxRecDepth 100000 in
theorem law_tokens (s t : ByteArray) (w : World) (hE : Env w) : Calls Tryd.prog 3 #[.string s, .string t] w fun e w' => e = .returned (.bool true) ∧ Below w.heap.size w w' := by
  have HE := Lib.hid hE
  clear hE
  by_cases h : 3000 < s.size
  · have h' : (3000 : Int) < s.size := by omega
    go_enter Tryd.func3, Tryd.ntmps3
    go_wp2_with fail
    refine (alive _ HE.out).mono ?_
    rintro e w1 ⟨rfl, b1⟩
    dsimp only
    go_wp2
    go_ret
    exact ⟨rfl, b1⟩
  · have h' : (s.size : Int) ≤ 3000 := by omega
    by_cases h2 : 3000 < t.size
    · have h2' : (3000 : Int) < t.size := by omega
      go_enter Tryd.func3, Tryd.ntmps3
      go_wp2_with fail
      refine (alive _ HE.out).mono ?_
      rintro e w1 ⟨rfl, b1⟩
      dsimp only
      go_wp2
      go_ret
      exact ⟨rfl, b1⟩
    · have h2' : (t.size : Int) ≤ 3000 := by omega
      have hs : s.size ≤ 100000 := by omega
      have ht : t.size ≤ 17592186044416 := by omega
      clear h h2
      cases hA : tokL 0 s.data.toList with
      | inr ts =>
        have HA := Lib.hid hA
        clear hA
        go_enter Tryd.func3, Tryd.ntmps3
        go_wp2_with fail
        refine (Tokens_ok s _ hs HE.out ts HA.out).mono ?_
        rintro e w1 ⟨g, cap, rfl, hg, hR, b1⟩
        have HR := Lib.hid hR
        have HB := Lib.hid b1
        clear hR b1 hg
        dsimp only
        go_wp2_with fail
        refine (refTokens_ok s _ hs ts HA.out).mono ?_
        rintro e w2 ⟨g', cap', rfl, hg', hR', b2⟩
        have HR' := Lib.hid hR'
        have HR2 := Lib.hid (HR.out.below b2)
        have HB2 := Lib.hid (HB.out.trans (b2.mono HB.out.size))
        clear b2 HR HB hR' hg'
        dsimp only
        go_wp2_with fail
        refine (alive _ (HE.out.below HB2.out)).mono ?_
        rintro e w3 ⟨rfl, b3⟩
        have HR3 := Lib.hid (HR2.out.below b3)
        have HR3' := Lib.hid (HR'.out.below b3)
        have HB3 := Lib.hid (HB2.out.trans (b3.mono HB2.out.size))
        clear b3 HR2 HR' HB2
        have hl4 : (ts.map t4).length = ts.length := by simp
        have hlb : ts.length ≤ 1000000 := by
          have h1 := tokL_many s.data.toList 0 ts HA.out
          rw [size_data] at h1; omega
        have HL4 := Lib.hid hl4
        clear hl4
        dsimp only
        go_wp2_with fail
        have hsame := Same_eq g g' cap cap' (ts.map t4) w3 HR3.out HR3'.out (by rw [HL4.out]; exact hlb)
        rw [HL4.out] at hsame
        refine hsame.mono ?_
        clear hsame
        rintro e w4 ⟨rfl, b4⟩
        have HB4 := Lib.hid (HB3.out.trans (b4.mono HB3.out.size))
        clear b4 HB3
        dsimp only
        go_wp2_with fail
        refine (IsKey t _ ht (HE.out.below HB4.out)).mono ?_
        rintro e w5 ⟨rfl, b5⟩
        have HB5 := Lib.hid (HB4.out.trans (b5.mono HB4.out.size))
        clear b5 HB4
        dsimp only
        go_wp2_with fail
        refine (refIsKey t _).mono ?_
        rintro e w6 ⟨rfl, b6⟩
        dsimp only
        go_wp2
        go_ret
        exact ⟨rfl, HB5.out.trans (b6.mono HB5.out.size)⟩
      | inl p =>
        have HA := Lib.hid hA
        clear hA
        go_enter Tryd.func3, Tryd.ntmps3
        go_wp2_with fail
        refine (Tokens_no s _ hs HE.out p HA.out).mono ?_
        rintro e w1 ⟨rfl, b1⟩
        have HB := Lib.hid b1
        clear b1
        dsimp only
        go_wp2_with fail
        refine (refTokens_no s _ hs p HA.out).mono ?_
        rintro e w2 ⟨rfl, b2⟩
        have HB2 := Lib.hid (HB.out.trans (b2.mono HB.out.size))
        clear b2 HB
        dsimp only
        go_wp2_with fail
        refine (alive _ (HE.out.below HB2.out)).mono ?_
        rintro e w3 ⟨rfl, b3⟩
        have HB3 := Lib.hid (HB2.out.trans (b3.mono HB2.out.size))
        clear b3 HB2
        dsimp only
        go_wp2_with fail
        refine (Same_none _).mono ?_
        rintro e w4 ⟨rfl, b4⟩
        have HB4 := Lib.hid (HB3.out.trans (b4.mono HB3.out.size))
        clear b4 HB3
        dsimp only
        go_wp2_with fail
        refine (IsKey t _ ht (HE.out.below HB4.out)).mono ?_
        rintro e w5 ⟨rfl, b5⟩
        have HB5 := Lib.hid (HB4.out.trans (b5.mono HB4.out.size))
        clear b5 HB4
        dsimp only
        go_wp2_with fail
        refine (refIsKey t _).mono ?_
        rintro e w6 ⟨rfl, b6⟩
        dsimp only
        go_wp2
        go_ret
        exact ⟨rfl, HB5.out.trans (b6.mono HB5.out.size)⟩

set_option maxHeartbeats 2000000 in
set_option maxRecDepth 100000 in
theorem law_joins_none (A : Option Addr) (c : Nat) (w : World) (hE : Env w) : Calls Tryd.prog 4 #[.slice A 0 c] w fun e w' => e = .returned (.bool true) ∧ Below w.heap.size w w' := by
  have HE := Lib.hid hE
  clear hE
  go_enter Tryd.func4, Tryd.ntmps4
  go_wp2_with fail
  go_loop [3] (fun i => i = .int .i64 0) (fun _ => 0)
  case atStart => rfl
  case round =>
    obtain rfl := hrel
    go_wp2_with fail
    refine (alive _ HE.out).mono ?_
    rintro e w1 ⟨rfl, b1⟩
    dsimp only
    go_wp2_with fail
    refine (Join_none A c _).mono ?_
    rintro e w2 ⟨rfl, rfl⟩
    dsimp only
    go_wp2_with fail
    refine (refJoin_none A c _).mono ?_
    rintro e w2 ⟨rfl, rfl⟩
    dsimp only
    go_wp2
    go_ret
    exact ⟨rfl, b1⟩

set_option maxHeartbeats 2000000 in
set_option maxRecDepth 100000 in
theorem law_joins (b off c : Nat) (l : List T4) (w : World) (hR : Rd4 w b off l) (h0 : 0 < l.length) (hE : Env w) : Calls Tryd.prog 4 #[.slice (some ⟨b, off, none⟩) l.length c] w fun e w' => e = .returned (.bool true) ∧ Below w.heap.size w w' := by
  have HE := Lib.hid hE
  have HR := Lib.hid hR
  clear hE hR
  by_cases hn : 200 < l.length
  · have hn' : (200 : Int) < l.length := by omega
    go_enter Tryd.func4, Tryd.ntmps4
    go_wp2_with fail
    refine (alive _ HE.out).mono ?_
    rintro e w1 ⟨rfl, b1⟩
    dsimp only
    go_wp2
    go_ret
    exact ⟨rfl, b1⟩
  · have hn' : (l.length : Int) ≤ 200 := by omega
    go_enter Tryd.func4, Tryd.ntmps4
    go_wp2_with fail
    go_loop [3] (fun i => ∃ k : Nat, i = .int .i64 k ∧ k ≤ l.length ∧ ∀ t ∈ l.take k, t.x.size ≤ 200) (fun i => l.length - (intOf i).toNat)
    case atStart => exact ⟨0, rfl, Nat.zero_le _, fun t ht => by simp at ht⟩
    case round =>
      obtain ⟨k, rfl, hk, hall⟩ := hrel
      have HALL := Lib.hid hall
      clear hall
      by_cases hlt : k < l.length
      · obtain ⟨t, ht⟩ : ∃ t, l[k]? = some t := ⟨l[k], List.getElem?_eq_getElem hlt⟩
        obtain ⟨e0, e1, e2, e3⟩ := HR.out.2 k t ht
        have hlt' : (k : Int) < l.length := by omega
        have hk0 : (0 : Int) ≤ k := by omega
        have HTK := Lib.hid ht
        clear ht
        by_cases hbig : 200 < t.x.size
        · have hbig' : (200 : Int) < t.x.size := by omega
          go_wp2_with fail
          refine (alive _ HE.out).mono ?_
          rintro e w1 ⟨rfl, b1⟩
          dsimp only
          go_wp2
          go_ret
          exact ⟨rfl, b1⟩
        · have hbig' : (t.x.size : Int) ≤ 200 := by omega
          go_wp2
          refine ⟨⟨k + 1, by simp, by omega, fun u hu => ?_⟩, by simp [intOf]; omega⟩
          rw [List.take_add_one, HTK.out] at hu
          rcases List.mem_append.1 hu with hu | hu
          · exact HALL.out u hu
          · simp only [Option.toList_some, List.mem_singleton] at hu
            subst hu; omega
      · obtain rfl : k = l.length := by omega
        have hx : ∀ t ∈ l, t.x.size ≤ 200 := by have := HALL.out; rw [List.take_length] at this; exact this
        have HX := Lib.hid hx
        have hlt' : ¬ (l.length : Int) < l.length := by omega
        clear hx
        go_wp2_with fail
        refine (alive _ HE.out).mono ?_
        rintro e w1 ⟨rfl, b1⟩
        have HR1 := Lib.hid (HR.out.below b1)
        have HB1 := Lib.hid b1
        clear b1
        dsimp only
        go_wp2_with fail
        refine (Join b off c l _ HR1.out (HE.out.below HB1.out).tabs (by omega) (fun t ht => by have := HX.out t ht; omega) (by
          rw [join4_K]
          have := joinK_len l HX.out (l.length - 1) (by omega)
          omega)).mono ?_
        rintro e w2 ⟨rfl, b2⟩
        have HR2 := Lib.hid (HR1.out.below b2)
        have HB2 := Lib.hid (HB1.out.trans (b2.mono HB1.out.size))
        clear b2
        dsimp only
        go_wp2_with fail
        refine (refJoin b off c l _ HR2.out (by omega) h0 HX.out).mono ?_
        rintro e w3 ⟨rfl, rfl⟩
        dsimp only
        go_wp2
        go_ret
        exact ⟨rfl, HB2.out⟩
end Lxw
end Go.Proofs.YtelejpajnemmfaaDoor
