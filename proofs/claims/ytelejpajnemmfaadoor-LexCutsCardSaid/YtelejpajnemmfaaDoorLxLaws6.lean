/-
  DERIVED. THE STATEMENT LexCuts, WALKED: both texts have tokens.
-/
import Derived.Test.YtelejpajnemmfaaDoorLxLaws5
namespace Go.Proofs.YtelejpajnemmfaaDoor
open Go.RowKit
namespace Lxw
open Gl Lx Glw

set_option maxHeartbeats 4000000 in
set_option maxRecDepth 100000 in
theorem cuts_good (a b : ByteArray) (w : World) (hE : Env w) (ha' : (a.size : Int) ≤ 1500) (hb' : (b.size : Int) ≤ 1500) (ts us : List Tok) (hA : tokL 0 a.data.toList = .inr ts) (hB : tokL 0 b.data.toList = .inr us) :
    Calls Tryd.prog 7 #[.string a, .string b] w fun e w' => e = .returned (.bool true) ∧ Below w.heap.size w w' := by
  have HE := Lib.hid hE
  clear hE
  have ha : a.size ≤ 100000 := by omega
  have hb : b.size ≤ 100000 := by omega
  have h1 : (⟨#[10]⟩ : ByteArray).size = 1 := rfl
  have hc : (a ++ ⟨#[10]⟩ ++ b : ByteArray).size ≤ 100000 := by rw [ByteArray.size_append, ByteArray.size_append, h1]; omega
  have t1 : (9223372036854775807 < a.size + (⟨#[10]⟩ : ByteArray).size) = False := by rw [h1]; simp; omega
  have t2 : (9223372036854775807 < (a ++ ⟨#[10]⟩ : ByteArray).size + b.size) = False := by rw [ByteArray.size_append, h1]; simp; omega
  have hdat : (a ++ ⟨#[10]⟩ ++ b : ByteArray).data.toList = a.data.toList ++ 10 :: b.data.toList := by rw [app_data, app_data, List.append_assoc]; rfl
  have hC := tokL_two hA hB
  rw [← hdat, size_data] at hC
  have hm1 := tokL_many _ 0 ts hA
  have hm2 := tokL_many _ 0 us hB
  have hle := tokL_le _ us hB
  simp only [size_data] at hm1 hm2 hle
  obtain ⟨n, hn⟩ : ∃ n, ts.length = n + 1 := ⟨ts.length - 1, by have := List.length_pos_iff.2 (tokL_ne hA); omega⟩
  obtain ⟨m, hm⟩ : ∃ m, us.length = m + 1 := ⟨us.length - 1, by have := List.length_pos_iff.2 (tokL_ne hB); omega⟩
  have hdl : ts.dropLast.length = n := by rw [List.length_dropLast, hn]; rfl
  have hN : (ts.dropLast ++ us.map (shiftT (a.size + 1))).length = n + (m + 1) := by rw [List.length_append, List.length_map, hdl, hm]
  have HA := Lib.hid hA
  have HB := Lib.hid hB
  have HC := Lib.hid hC
  have HN := Lib.hid hN
  have HTN := Lib.hid hn
  have HUM := Lib.hid hm
  have HLE := Lib.hid hle
  have HDL := Lib.hid hdl
  have hn1 : n ≤ 1500 := by omega
  have hmm : m ≤ 1500 := by omega
  have k1 : IntKind.i64.wrap (((n : Int) + 1) + ((m : Int) + 1)) = ((n : Int) + 1) + ((m : Int) + 1) := IntWalk.i64_in _ (by omega)
  have q8 : ((n : Int) + ((m : Int) + 1) != (n : Int) + 1 + ((m : Int) + 1) - 1) = false := by rw [← Bool.not_eq_true, bne_iff_ne]; omega
  have q8a : (1 : Int) ≤ (n : Int) + 1 := by omega
  have q8b : (1 : Int) ≤ (m : Int) + 1 := by omega
  clear h1 hdat hC hA hB hm1 hm2 hle hn hm hdl hN
  go_enter Tryd.func7, Tryd.ntmps7
  go_wp2_with fail
  refine (Tokens_ok a _ ha HE.out _ HA.out).mono ?_
  rintro e w1 ⟨g1, cap1, rfl, hg1, hR1, b1⟩
  have HR1 := Lib.hid hR1
  have HB1 := Lib.hid b1
  clear b1 hR1 hg1
  rw [HTN.out]
  dsimp only
  go_wp2_with fail
  refine (Tokens_ok b _ hb (HE.out.below HB1.out) _ HB.out).mono ?_
  rintro e w2 ⟨g2, cap2, rfl, hg2, hR2, b2⟩
  have HR2 := Lib.hid hR2
  have HB2 := Lib.hid (HB1.out.trans (b2.mono HB1.out.size))
  have HR1a := Lib.hid (HR1.out.below b2)
  clear b2 hR2 hg2 HR1
  rw [HUM.out]
  dsimp only
  go_wp2_with fail
  generalize (a ++ ⟨#[10]⟩ ++ b : ByteArray) = X at hc HC ⊢
  refine (Tokens_ok X _ hc (HE.out.below HB2.out) _ HC.out).mono ?_
  rintro e w3 ⟨g3, cap3, rfl, hg3, hR3, b3⟩
  have HR3 := Lib.hid hR3
  have HB3 := Lib.hid (HB2.out.trans (b3.mono HB2.out.size))
  have HR1b := Lib.hid (HR1a.out.below b3)
  have HR2b := Lib.hid (HR2.out.below b3)
  clear b3 hR3 hg3 HR1a HR2
  rw [HN.out]
  dsimp only
  go_wp2_with fail
  go_loopw [14] (fun i wr => ∃ k : Nat, i = .int .i64 k ∧ k ≤ n ∧ Below w3.heap.size w3 wr) (fun i _ => n - (intOf i).toNat)
  case atStart => exact ⟨0, rfl, Nat.zero_le _, Below.refl _ _⟩
  case round =>
    obtain ⟨k, rfl, hk, hB⟩ := hrel
    have HBr := Lib.hid hB
    have HR4 := Lib.hid (HR3.out.below hB)
    have HR4' := Lib.hid (HR1b.out.below hB)
    have HR4u := Lib.hid (HR2b.out.below hB)
    clear hB
    by_cases hlt : k < n
    · obtain ⟨t, ht⟩ : ∃ t, ts[k]? = some t := ⟨ts[k]'(by have := HTN.out; omega), List.getElem?_eq_getElem _⟩
      have htd : (ts.dropLast ++ us.map (shiftT (a.size + 1)))[k]? = some t := by
        rw [List.getElem?_append_left (by rw [HDL.out]; exact hlt), List.getElem?_dropLast, if_pos (by have := HTN.out; omega)]; exact ht
      obtain ⟨e0, e1, e2, e3⟩ := HR4.out.2 k (t4 t) (by rw [List.getElem?_map, htd]; rfl)
      obtain ⟨e0', e1', e2', e3'⟩ := HR4'.out.2 k (t4 t) (by rw [List.getElem?_map, ht]; rfl)
      rw [Nat.zero_add] at e0 e1 e2 e3 e0' e1' e2' e3'
      have hlt' : (k : Int) < n := by omega
      have hlt2 : (k : Int) < (n : Int) + 1 := by omega
      have hlt3 : (k : Int) < (n : Int) + ((m : Int) + 1) := by omega
      have hk0 : (0 : Int) ≤ k := by omega
      generalize t4 t = T at e0 e1 e2 e3 e0' e1' e2' e3'
      clear ht htd
      go_wp2_with fail
      go_quiet (fail)
      go_wp2_with fail
      refine ⟨⟨k + 1, by simp, by omega, below_drewN' HBr.out _⟩, by simp [intOf]; omega⟩
    · obtain rfl : k = n := by omega
      have hlt' : ¬ (k : Int) < k := by omega
      obtain ⟨wo, rfl⟩ : ∃ wo : World, wo = wr := ⟨_, rfl⟩
      have HBo := Lib.hid (HB3.out.trans (HBr.out.mono HB3.out.size))
      clear HBr
      go_wp2_with fail
      go_loopw [15] (fun i wr => ∃ q : Nat, i = .int .i64 q ∧ q ≤ m + 1 ∧ Below wo.heap.size wo wr) (fun i _ => m + 1 - (intOf i).toNat)
      case atStart => exact ⟨0, rfl, Nat.zero_le _, Below.refl _ _⟩
      case round =>
        obtain ⟨q, rfl, hq, hB⟩ := hrel
        have HBr := Lib.hid hB
        have hbw := hB.size
        have HR5 := Lib.hid (HR4.out.below hB)
        have HR5u := Lib.hid (HR4u.out.below hB)
        clear hB
        by_cases hlt : q < m + 1
        · obtain ⟨u, hu⟩ : ∃ u, us[q]? = some u := ⟨us[q]'(by have := HUM.out; omega), List.getElem?_eq_getElem _⟩
          have hud : (ts.dropLast ++ us.map (shiftT (a.size + 1)))[k + q]? = some (shiftT (a.size + 1) u) := by
            rw [List.getElem?_append_right (by rw [HDL.out]; omega), HDL.out, Nat.add_sub_cancel_left, List.getElem?_map, hu]; rfl
          have hle := HLE.out u (List.mem_of_getElem? hu)
          obtain ⟨e0, e1, e2, e3⟩ := HR5.out.2 (k + q) (t4 (shiftT (a.size + 1) u)) (by rw [List.getElem?_map, hud]; rfl)
          obtain ⟨e0', e1', e2', e3'⟩ := HR5u.out.2 q (t4 u) (by rw [List.getElem?_map, hu]; rfl)
          rw [Nat.zero_add] at e0 e1 e2 e3 e0' e1' e2' e3'
          simp only [t4, shiftT] at e0 e1 e2 e3 e0' e1' e2' e3'
          rw [show ((u.lo + (a.size + 1) : Nat) : Int) = (u.lo : Int) + (a.size : Int) + 1 from by omega] at e2
          rw [show ((u.hi + (a.size + 1) : Nat) : Int) = (u.hi : Int) + (a.size : Int) + 1 from by omega] at e3
          generalize (⟨u.text.toArray⟩ : ByteArray) = y at e1 e1'
          generalize (u.kind : Int) = K at e0 e0'
          generalize u.lo = lo at e2 e2' hle
          generalize u.hi = hi at e3 e3' hle
          obtain ⟨hle1, hle2⟩ := hle
          have x1 : IntKind.i64.wrap ((lo : Int) + (a.size : Int)) = (lo : Int) + (a.size : Int) := IntWalk.i64_in _ (by omega)
          have x2 : IntKind.i64.wrap ((lo : Int) + (a.size : Int) + 1) = (lo : Int) + (a.size : Int) + 1 := IntWalk.i64_in _ (by omega)
          have x3 : IntKind.i64.wrap ((hi : Int) + (a.size : Int)) = (hi : Int) + (a.size : Int) := IntWalk.i64_in _ (by omega)
          have x4 : IntKind.i64.wrap ((hi : Int) + (a.size : Int) + 1) = (hi : Int) + (a.size : Int) + 1 := IntWalk.i64_in _ (by omega)
          have x5 : IntKind.i64.wrap ((k : Int) + (q : Int)) = (k : Int) + (q : Int) := IntWalk.i64_in _ (by omega)
          have hg3 : g3 < wr.heap.size := HR5.out.1
          have x9 : IntKind.i64.wrap ((k : Int) + 1 - 1) = (k : Int) := by rw [IntWalk.i64_in _ (by omega)]; omega
          have x10 : IntKind.i64.wrap (k : Int) = (k : Int) := IntWalk.i64_in _ (by omega)
          have x6 : (0 : Int) ≤ (k : Int) + (q : Int) := by omega
          have x7 : (k : Int) + (q : Int) < (k : Int) + ((m : Int) + 1) := by omega
          have x8 : ((k : Int) + (q : Int)).toNat = k + q := by omega
          have hlt' : (q : Int) < (m : Int) + 1 := by omega
          have hq0 : (0 : Int) ≤ q := by omega
          have BW : Below wo.heap.size wo (wr.alloc (.cells #[.int .i64 K, .string y, .int .i64 (lo + a.size + 1), .int .i64 (hi + a.size + 1)] 31)) := HBr.out.alloc hbw _
          have HBW := Lib.hid BW
          clear hu hud BW
          go_wp2_with fail
          go_quiet (fail)
          go_wp2_with fail
          refine ⟨⟨q + 1, by simp, by omega, below_drewN' HBW.out _⟩, by simp [intOf]; omega⟩
        · have hlt' : ¬ (q : Int) < (m : Int) + 1 := by omega
          have HB5 := Lib.hid (HBo.out.trans (HBr.out.mono HBo.out.size))
          go_wp2_with fail
          refine (alive _ (HE.out.below HB5.out)).mono ?_
          rintro e w5 ⟨rfl, b5⟩
          dsimp only
          go_wp2
          go_ret
          exact ⟨rfl, HB5.out.trans (b5.mono HB5.out.size)⟩

set_option maxHeartbeats 1000000 in
theorem law_cuts (a b : ByteArray) (w : World) (hE : Env w) : Calls Tryd.prog 7 #[.string a, .string b] w fun e w' => e = .returned (.bool true) ∧ Below w.heap.size w w' := by
  by_cases h : 1500 < a.size
  · have h' : (1500 : Int) < a.size := by omega
    have HE := Lib.hid hE
    clear hE
    go_enter Tryd.func7, Tryd.ntmps7
    go_wp2_with fail
    refine (alive _ HE.out).mono ?_
    rintro e w1 ⟨rfl, b1⟩
    dsimp only
    go_wp2
    go_ret
    exact ⟨rfl, b1⟩
  · have h' : (a.size : Int) ≤ 1500 := by omega
    by_cases h2 : 1500 < b.size
    · have h2' : (1500 : Int) < b.size := by omega
      have HE := Lib.hid hE
      clear hE
      go_enter Tryd.func7, Tryd.ntmps7
      go_wp2_with fail
      refine (alive _ HE.out).mono ?_
      rintro e w1 ⟨rfl, b1⟩
      dsimp only
      go_wp2
      go_ret
      exact ⟨rfl, b1⟩
    · have h2' : (b.size : Int) ≤ 1500 := by omega
      cases hA : tokL 0 a.data.toList with
      | inl p => exact cuts_bad a b w hE h' h2' fun ts us h1 _ => by rw [hA] at h1; cases h1
      | inr ts =>
        cases hB : tokL 0 b.data.toList with
        | inl p => exact cuts_bad a b w hE h' h2' fun ts us _ h1 => by rw [hB] at h1; cases h1
        | inr us => exact cuts_good a b w hE h' h2' ts us hA hB
end Lxw
end Go.Proofs.YtelejpajnemmfaaDoor
