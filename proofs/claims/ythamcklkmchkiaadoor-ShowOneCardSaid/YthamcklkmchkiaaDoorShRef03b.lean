/-
  DERIVED. LAYER 3 (ty), the reference's, walked: a node's children, the type at a node.
-/
import Derived.Test.YthamcklkmchkiaaDoorShRef03
namespace Go.Proofs.YthamcklkmchkiaaDoor
open Go.RowKit
namespace Shw
open Gl Glw Sh

theorem infoInt : (Tryd.prog.info? 3).map (fun i => (i.zero, i.size, i.bytes)) = some (some (.int .i64 0), 1, 8) := by kernel_rfl
theorem infoTN : (Tryd.prog.info? 66).map (fun i => (i.zero, i.size, i.bytes)) = some (some (.agg #[.int .i64 0, .string ⟨#[]⟩, .int .i64 0]), 3, 32) := by kernel_rfl

/-- A slice of places of the call's own. -/
def Ints (w : World) (base : Nat) (v : Go.Value) (ps : List Nat) : Prop := w.ownsRow base 3 1 v ps.length (ps.map fun p => Go.Value.int .i64 (p : Nat))
theorem Ints.below {w w' : World} {base : Nat} {v : Go.Value} {ps : List Nat} (h : Ints w base v ps) (hb : Below w.heap.size w w') : Ints w' base v ps := own_keep h fun k hk => hb.block k (own_lt h hk).2
theorem Ints.at_ {w : World} {base : Nat} {v : Go.Value} {ps : List Nat} (h : Ints w base v ps) {i p : Nat} (hi : ps[i]? = some p) : ∃ g cap, v = .slice (some ⟨g, 0, none⟩) ps.length cap ∧ ps.length ≤ cap ∧ base ≤ g ∧ g < w.heap.size ∧ w.cell? ⟨g, i, none⟩ = some (.int .i64 (p : Nat)) := by
  have hlt : i < ps.length := by
    rcases Nat.lt_or_ge i ps.length with h' | h'
    · exact h'
    · rw [List.getElem?_eq_none h'] at hi; cases hi
  obtain ⟨g, cap, hv, hb, hg⟩ := World.ownsRow.form h (by omega)
  subst hv
  refine ⟨g, cap, rfl, ?_, hb, hg, ?_⟩
  · rcases h.2 with ⟨h', _⟩ | ⟨g', cap', cur, h', _, _, hc, _⟩
    · simp at h'
    · simp only [Value.slice.injEq, Option.some.injEq, Addr.mk.injEq, and_true, true_and] at h'
      omega
  · rw [World.ownsRow.cellAt h i (by omega), List.getElem?_map, hi]
    rfl

set_option maxHeartbeats 4000000 in
set_option maxRecDepth 100000 in
theorem Kids03 (b off cap i : Nat) (L : List TN) (hil : i < L.length) (w : World) (hRV : RdT w b off L) (hL : L.length ≤ 1000000) :
    Calls Tryd.prog 76 #[.slice (some ⟨b, off, none⟩) L.length cap, .int .i64 i] w fun e w' => ∃ v, e = .returned v ∧ Ints w' w.heap.size v (kidsT L i) ∧ Below w.heap.size w w' := by
  obtain ⟨i0, hi, hz0, hz1, hz2⟩ := info_parts infoInt
  obtain ⟨n, hn, b0, b1, b2⟩ := hRV.at_ hil
  have hkt : kidsT L i = kidPos L (manyT n).toNat (i + 1) := by unfold kidsT; rw [hn]
  rw [hkt]
  have qi0 : decide ((i : Int) < 0) = false := by simp
  have qi1 : decide (L.length ≤ i) = false := by simp; omega
  have HRV := Lib.hid hRV
  have HN := Lib.hid hn
  have HI := Lib.hid hi
  have HZ0 := Lib.hid hz0
  have HZ1 := Lib.hid hz1
  have HZ2 := Lib.hid hz2
  have hE : ∀ i w, i < L.length → RdT w b off L → Calls Tryd.prog 53 #[.slice (some ⟨b, off, none⟩) L.length cap, .int .i64 (i : Nat)] w fun e w' => e = .returned (.int .i64 (i + endT (L.drop i) : Nat)) ∧ Below w.heap.size w w' := fun i w hi hR => End03 b off cap i L hi w hR hL
  have HEn := Lib.hid hE
  have hmy := fun w => many03 n w
  have HMY := Lib.hid hmy
  clear hRV hn hi hz0 hz1 hz2 hE hmy b0 b1 b2 hkt
  go_enter Tryd.func76, Tryd.ntmps76
  go_wp2_with fail
  go_loopw [5, 6, 7] (fun o a k wr => ∃ (at' c : Nat) (done : List Nat), a = .int .i64 at' ∧ k = .int .i64 c ∧ done.length = c ∧ i < at' ∧ at' ≤ L.length ∧ c < at' ∧ kidPos L (manyT n).toNat (i + 1) = done ++ kidPos L ((manyT n).toNat - c) at' ∧
    Ints wr w.heap.size o done ∧ Below w.heap.size w wr) (fun _ a _ _ => L.length - (intOf a).toNat)
  case atStart =>
    exact ⟨i + 1, 0, [], by simp, rfl, rfl, by omega, by omega, by omega, by rw [List.nil_append, Nat.sub_zero], World.ownsRow_lit w #[] 0 (Nat.le_refl _) (Nat.zero_le _) rfl, (Below.refl _ _).alloc (Nat.le_refl _) _⟩
  case round =>
    obtain ⟨at', c, done, rfl, rfl, hdl, ha1, ha2, hca, heq, hrows, hB⟩ := hrel
    have HEQ := Lib.hid heq
    have HROWS := Lib.hid hrows
    have HB := Lib.hid hB
    have HDL := Lib.hid hdl
    have HR := Lib.hid (HRV.out.since HRV.out.1 hB)
    clear heq hrows hB hdl
    obtain ⟨n', hn', b0, b1, b2⟩ := HR.out.at_ hil
    have hnn : n' = n := by
      have := HN.out
      rw [hn'] at this
      exact Option.some.inj this
    subst hnn
    clear hn'
    have ha0 : (0 : Int) ≤ at' := by omega
    have hi0 : (0 : Int) ≤ i := by omega
    have hi1 : (i : Int) < L.length := by omega
    go_wp2_with fail
    refine (HMY.out _).mono ?_
    rintro e w1 ⟨rfl, q1⟩
    dsimp only
    clear b0 b1 b2
    have HB1 := Lib.hid (HB.out.trans (q1.mono HB.out.size))
    have HW1 := Lib.hid (HROWS.out.below q1)
    have HR1 := Lib.hid (HR.out.since (Nat.lt_of_lt_of_le HRV.out.1 HB.out.size) q1)
    clear q1 HROWS HB HR HMY
    by_cases hc : (c : Int) < manyT n'
    · have qc : decide ((c : Int) < manyT n') = true := by simpa using hc
      by_cases ha : at' < L.length
      · have qa : decide ((at' : Int) < L.length) = true := by simp; omega
        have he := endT_drop L at' ha
        have hks : kidPos L ((manyT n').toNat - c) at' = at' :: kidPos L ((manyT n').toNat - (c + 1)) (at' + endT (L.drop at')) := by
          rw [show (manyT n').toNat - c = (manyT n').toNat - (c + 1) + 1 by omega, kidPos, if_pos ha]
        have HKS := Lib.hid hks
        obtain ⟨T, hT⟩ : ∃ T, at' + endT (L.drop at') = T := ⟨_, rfl⟩
        have hTa : at' < T ∧ T ≤ L.length := by omega
        have HT := Lib.hid hT
        have hml : (done.map fun p => Go.Value.int .i64 (p : Nat)).length = c := by rw [List.length_map]; exact HDL.out
        have hbw : w.heap.size ≤ w1.heap.size := HB1.out.size
        have OWN := Lib.hid (HW1.out.below ((Below.refl _ _).alloc (Nat.le_refl _) (.cells #[.int .i64 at'] 3)))
        have hs1 : (w1.alloc (.cells #[.int .i64 at'] 3)).heap.size = w1.heap.size + 1 := by simp
        have HS1 := Lib.hid hs1
        have hb2 : Below w1.heap.size w1 (w1.alloc (.cells #[.int .i64 at'] 3)) := (Below.refl _ _).alloc (Nat.le_refl _) _
        have HB2 := Lib.hid hb2
        have hcl : c ≤ 1000000 := by omega
        clear hks hc hT he hml hs1 hb2
        go_wp2_with (at_builtin; refine wpList_append_lies _ rfl (.tmp 35) (.tmp 37) 43 rfl w.heap.size 3 i0 _ 1 8 Tryd.underlying43 HI.out HZ0.out HZ1.out HZ2.out rfl (by decide) u5 _ _ rfl OWN.out ⟨w1.heap.size, 0, none⟩ 1 1 [.int .i64 at'] rfl rfl (cell_one_new _ _ _) (by intro u hu; rw [List.mem_singleton.1 hu]; rfl) (by decide) (by rw [HDL.out]; unfold maxLen; omega) (by rw [HDL.out]; omega) (by rw [HS1.out]; omega) _ HS1.out ?_; intro g2 cap2 w4 hown2 hgr2 hat2 hlt2; have HO2 := Lib.hid hown2; have HG2 := Lib.hid hgr2; clear hown2 hgr2 hat2)
        have hb4 : Below w.heap.size w w4 := (HB1.out.trans (HB2.out.mono hbw)).grown HG2.out (by rw [HS1.out]; omega) (fun k hk => (own_lt OWN.out hk).1)
        have HB4 := Lib.hid hb4
        have hE4 := HEn.out at' w4 ha (HRV.out.since HRV.out.1 hb4)
        rw [HT.out] at hE4
        have HE4 := Lib.hid hE4
        clear hb4 hE4
        refine HE4.out.mono ?_
        rintro e w5 ⟨rfl, q5⟩
        dsimp only
        have HB5 := Lib.hid (HB4.out.trans (q5.mono HB4.out.size))
        have hown : w4.ownsRow w.heap.size 3 1 (.slice (some ⟨g2, 0, none⟩) (done.length + 1) cap2) (done.length + 1) ((done.map fun p => Go.Value.int .i64 (p : Nat)) ++ [.int .i64 at']) := HO2.out
        have hi5 : Ints w5 w.heap.size (.slice (some ⟨g2, 0, none⟩) (done.length + 1) cap2) (done ++ [at']) := by
          unfold Ints
          rw [List.length_append, List.map_append]
          exact own_keep hown fun k hk => q5.block k (own_lt hown hk).2
        have HI5 := Lib.hid hi5
        clear q5 hown hi5 HEn
        go_wp2_with fail
        refine ⟨⟨T, c + 1, done ++ [at'], rfl, by simp, by rw [List.length_append, HDL.out]; rfl, by omega, by omega, by omega, ?_, HI5.out, HB5.out⟩, by simp [intOf]; omega⟩
        rw [HEQ.out, HKS.out, HT.out, List.append_assoc]
        rfl
      · have qa : decide ((at' : Int) < L.length) = false := by simp; omega
        have hz : kidPos L ((manyT n').toNat - c) at' = [] := by
          cases (manyT n').toNat - c with
          | zero => rw [kidPos]
          | succ m => rw [kidPos, if_neg ha]
        have HZ := Lib.hid hz
        clear hc hz HEn
        go_wp2_with fail
        go_ret
        refine ⟨u5, rfl, ?_, HB1.out⟩
        rw [HEQ.out, HZ.out, List.append_nil]
        exact HW1.out
    · have qc : decide ((c : Int) < manyT n') = false := by simpa using hc
      have hz : (manyT n').toNat - c = 0 := by omega
      have HZ := Lib.hid hz
      clear hc hz HEn
      go_wp2_with fail
      go_ret
      refine ⟨u5, rfl, ?_, HB1.out⟩
      rw [HEQ.out, HZ.out, kidPos, List.append_nil]
      exact HW1.out
end Shw
end Go.Proofs.YthamcklkmchkiaaDoor
