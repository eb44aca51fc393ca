/-
  DERIVED. LAYER 3 (ty), the reference's, walked: are labels such; is it a type (what a yes tells).
-/
import Derived.Test.YthamcklkmchkiaaDoorShRef03d
import Derived.Deep.QuietTactic
import Derived.BigQuiet
namespace Go.Proofs.YthamcklkmchkiaaDoor
open Go.RowKit
namespace Shw
open Gl Glw Sh

def LabP (L : List TN) (i : Nat) : Prop := ∀ n, L[i]? = some n → ((kidsT L i).length : Int) = manyT n
def LabPost (L : List TN) (i : Nat) (w : World) (e : Ending) (w' : World) : Prop := ∃ bo : Bool, e = .returned (.bool bo) ∧ (bo = true → LabP L i) ∧ Below w.heap.size w w'
theorem lab_false {L : List TN} {i : Nat} {w w' : World} (h : Below w.heap.size w w') : LabPost L i w (.returned (.bool false)) w' := ⟨false, rfl, fun h => by simp at h, h⟩
theorem lab_true {L : List TN} {i : Nat} {w w' : World} (hl : LabP L i) (h : Below w.heap.size w w') : LabPost L i w (.returned (.bool true)) w' := ⟨true, rfl, fun _ => hl, h⟩

set_option maxHeartbeats 8000000 in
set_option maxRecDepth 100000 in
theorem labelled03 (b off cap i : Nat) (L : List TN) (hil : i < L.length) (w : World) (hRV : RdT w b off L) (hL : L.length ≤ 1000000) (hS : ∀ n ∈ L, n.nm.size ≤ 9223372036854775807) :
    Calls Tryd.prog 55 #[.slice (some ⟨b, off, none⟩) L.length cap, .int .i64 i] w (LabPost L i w) := by
  obtain ⟨n, hn, b0, b1, b2⟩ := hRV.at_ hil
  have hK := Kids03 b off cap i L hil w hRV hL
  have hi0 : (0 : Int) ≤ i := by omega
  have hi1 : (i : Int) < L.length := by omega
  have hkl : (kidsT L i).length ≤ 1000000 := by
    have e : kidsT L i = kidPos L (manyT n).toNat (i + 1) := by unfold kidsT; rw [hn]
    rw [e]
    have := kidPos_len L (manyT n).toNat (i + 1)
    omega
  have hkp : ∀ p ∈ kidsT L i, p < L.length := fun p hp => by
    unfold kidsT at hp
    rw [hn] at hp
    exact (kidPos_lt L _ _ p hp).2
  have HRV := Lib.hid hRV
  have HN := Lib.hid hn
  have HK := Lib.hid hK
  have HS := Lib.hid hS
  have HKP := Lib.hid hkp
  have hmy := fun n w => many03 n w
  have HMY := Lib.hid hmy
  clear hRV hn hmy hK hS hkp b0 b1 b2
  go_enter Tryd.func55, Tryd.ntmps55
  go_wp2_with fail
  refine HK.out.mono ?_
  rintro e w1 ⟨v, rfl, hints, q1⟩
  dsimp only
  obtain ⟨ps, hps⟩ : ∃ ps, kidsT L i = ps := ⟨_, rfl⟩
  rw [hps] at hints hkl
  have hform : ∃ A cp, v = .slice A ps.length cp := by
    rcases hints.2 with ⟨rfl, h0⟩ | ⟨g, cp, cur, rfl, _⟩
    · exact ⟨none, 0, by rw [h0]⟩
    · exact ⟨_, cp, rfl⟩
  obtain ⟨A, cp, hv⟩ := hform
  rw [hv] at hints ⊢
  have HB1 := Lib.hid q1
  have HI1 := Lib.hid hints
  have HPS := Lib.hid hps
  have HR1 := Lib.hid (HRV.out.since HRV.out.1 q1)
  clear hv hints hps q1 HK
  obtain ⟨n', hn', b0, b1, b2⟩ := HR1.out.at_ hil
  have hnn : n' = n := by
    have := HN.out
    rw [hn'] at this
    exact Option.some.inj this
  subst hnn
  clear hn'
  go_wp2_with fail
  refine (HMY.out n' _).mono ?_
  rintro e w2 ⟨rfl, q2⟩
  dsimp only
  have HB2 := Lib.hid (HB1.out.trans (q2.mono HB1.out.size))
  have HI2 := Lib.hid (HI1.out.below q2)
  clear b0 b1 b2 q2 HI1 HR1 HB1
  by_cases hlen : (ps.length : Int) = manyT n'
  · have q0 : ((ps.length : Int) != manyT n') = false := by rw [bne_eq_false_iff_eq]; exact hlen
    have hlab : LabP L i := fun m hm => by
      rw [HN.out] at hm
      rw [HPS.out, ← Option.some.inj hm]
      exact hlen
    have HLAB := Lib.hid hlab
    clear hlen hlab
    go_wp2_with fail
    go_loopw [6] (fun k wr => ∃ k' : Nat, k = .int .i64 k' ∧ k' ≤ ps.length ∧ Ints wr w.heap.size (.slice A ps.length cp) ps ∧ Below w.heap.size w wr) (fun k _ => ps.length - (intOf k).toNat)
    case atStart => exact ⟨0, rfl, Nat.zero_le _, HI2.out, HB2.out⟩
    case round =>
      obtain ⟨k, rfl, hk, hI, hB⟩ := hrel
      have HI := Lib.hid hI
      have HB := Lib.hid hB
      clear hI hB
      by_cases hlt : k < ps.length
      · obtain ⟨p, hp⟩ : ∃ p, ps[k]? = some p := ⟨_, List.getElem?_eq_getElem hlt⟩
        obtain ⟨g, cp', hA, _, _, hg, hc⟩ := HI.out.at_ hp
        simp only [Value.slice.injEq, true_and] at hA
        obtain ⟨rfl, rfl⟩ := hA
        have hpl : p < L.length := HKP.out p (by rw [HPS.out]; exact List.mem_of_getElem? hp)
        obtain ⟨x, hx, a0, a1, a2⟩ := (HRV.out.since HRV.out.1 HB.out).at_ hpl
        obtain ⟨m, hm, c0, c1, c2⟩ := (HRV.out.since HRV.out.1 HB.out).at_ hil
        have hmm : m = n' := by
          have := HN.out
          rw [hm] at this
          exact Option.some.inj this
        subst hmm
        have hk0 : (0 : Int) ≤ k := by omega
        have hlt' : (k : Int) < ps.length := by omega
        have hp0 : (0 : Int) ≤ p := by omega
        have hp1 : (p : Int) < L.length := by omega
        have hxs := HS.out x (List.mem_of_getElem? hx)
        have hbw : b < wr.heap.size := Nat.lt_of_lt_of_le HRV.out.1 HB.out.size
        clear hp hx hm
        have hbx : Below w.heap.size w (wr.alloc (.cells #[.int .i64 x.k, .string x.nm, .int .i64 x.n] 66)) := HB.out.alloc HB.out.size _
        have HBX := Lib.hid hbx
        have HIX := Lib.hid (HI.out.below ((Below.refl _ _).alloc (Nat.le_refl _) (.cells #[.int .i64 x.k, .string x.nm, .int .i64 x.n] 66)))
        have hiw := fun w => refIsWord x.nm w hxs
        have hit := fun w => refIsTag x.nm w hxs
        have HIW := Lib.hid hiw
        have HIT := Lib.hid hit
        clear hbx hiw hit
        by_cases h6 : m.k = 6
        · have q6 : (m.k == 6) = true := by rw [beq_iff_eq]; exact h6
          have q7 : (m.k == 7) = false := by rw [beq_eq_false_iff_ne, h6]; decide
          clear h6
          by_cases h9 : x.k = 9
          · have q9 : (x.k == 9) = true := by rw [beq_iff_eq]; exact h9
            clear h9
            go_wp2_with fail
            all_goals first | (go_ret; exact lab_false HBX.out) | exact ⟨⟨k + 1, by first | (simp; done) | (simp; omega), by omega, HIX.out, HBX.out⟩, by simp [intOf]; omega⟩
          · have q9 : (x.k == 9) = false := by rw [beq_eq_false_iff_ne]; exact h9
            clear h9
            go_wp2_with fail
            refine (HIW.out _).mono ?_
            rintro e w4 ⟨rfl, rfl⟩
            dsimp only
            by_cases hw : wordL x.nm.data.toList = true
            · by_cases hkz : k = 0
              · have qk : decide (0 < k) = false := by simp; omega
                have HW := Lib.hid hw
                have HKZ := Lib.hid hkz
                go_wp2_with fail
                go_quiet (fail)
                have HBQ := Lib.hid (show Below w.heap.size w ((wr.alloc (.cells #[.int .i64 x.k, .string x.nm, .int .i64 x.n] 66)).drewN nq) from ⟨HBX.out.os, HBX.out.tape, HBX.out.output, HBX.out.size, HBX.out.block⟩)
                have HIQ := Lib.hid (show Ints ((wr.alloc (.cells #[.int .i64 x.k, .string x.nm, .int .i64 x.n] 66)).drewN nq) w.heap.size (.slice (some ⟨g, 0, none⟩) ps.length cp) ps from HIX.out)
                go_wp2_with fail
                all_goals first | (go_ret; exact lab_false HBQ.out) | exact ⟨⟨k + 1, by first | (simp; done) | (simp; omega), by omega, HIQ.out, HBQ.out⟩, by simp [intOf]; omega⟩
              · have qk : decide ((0 : Int) < k) = true := by simp; omega
                obtain ⟨p', hp'⟩ : ∃ p', ps[k - 1]? = some p' := ⟨_, List.getElem?_eq_getElem (by omega)⟩
                obtain ⟨g', cp', hA, _, _, hg', hc'⟩ := HIX.out.at_ hp'
                simp only [Value.slice.injEq, Option.some.injEq, Addr.mk.injEq, and_true, true_and] at hA
                obtain ⟨rfl, rfl⟩ := hA
                have hpl' : p' < L.length := HKP.out p' (by rw [HPS.out]; exact List.mem_of_getElem? hp')
                obtain ⟨x', hx', a0', a1', a2'⟩ := (HRV.out.since HRV.out.1 HBX.out).at_ hpl'
                clear hp' hx'
                have hbc : (wr.alloc (.cells #[.int .i64 x.k, .string x.nm, .int .i64 x.n] 66)).cell? ⟨wr.heap.size, 1, none⟩ = some (.string x.nm) := by rw [World.cell?_alloc_at _ _ _ _ rfl]; rfl
                have hq1 : (1 : Int) ≤ k := by omega
                have hq2 : (0 : Int) ≤ (k : Int) - 1 := by omega
                have hq3 : (k : Int) - 1 < ps.length := by omega
                have hq4 : ((k : Int) - 1).toNat = k - 1 := by omega
                have hq5 : IntKind.i64.wrap ((k : Int) - 1) = (k : Int) - 1 := IntWalk.i64_in _ ⟨by omega, by omega⟩
                have hq6 : (0 : Int) ≤ p' := by omega
                have hq7 : (p' : Int) < L.length := by omega
                have qk2 : decide (0 < k) = true := by simp; omega
                have hk00 : 0 < k := by omega
                go_wp2_with fail
                go_quiet (fail)
                have HBQ := Lib.hid (show Below w.heap.size w ((wr.alloc (.cells #[.int .i64 x.k, .string x.nm, .int .i64 x.n] 66)).drewN nq) from ⟨HBX.out.os, HBX.out.tape, HBX.out.output, HBX.out.size, HBX.out.block⟩)
                have HIQ := Lib.hid (show Ints ((wr.alloc (.cells #[.int .i64 x.k, .string x.nm, .int .i64 x.n] 66)).drewN nq) w.heap.size (.slice (some ⟨g, 0, none⟩) ps.length cp) ps from HIX.out)
                go_wp2_with fail
                all_goals first | (go_ret; exact lab_false HBQ.out) | exact ⟨⟨k + 1, by first | (simp; done) | (simp; omega), by omega, HIQ.out, HBQ.out⟩, by simp [intOf]; omega⟩
            · have hw' : wordL x.nm.data.toList = false := by simpa using hw
              clear hw
              go_wp2_with fail
              all_goals (go_ret; exact lab_false HBX.out)
        · have q6 : (m.k == 6) = false := by rw [beq_eq_false_iff_ne]; exact h6
          clear h6
          by_cases h7 : m.k = 7
          · have q7 : (m.k == 7) = true := by rw [beq_iff_eq]; exact h7
            clear h7
            by_cases h9 : x.k = 9
            · have q9 : (x.k == 9) = true := by rw [beq_iff_eq]; exact h9
              clear h9
              go_wp2_with fail
              all_goals first | (go_ret; exact lab_false HBX.out) | exact ⟨⟨k + 1, by first | (simp; done) | (simp; omega), by omega, HIX.out, HBX.out⟩, by simp [intOf]; omega⟩
            · have q9 : (x.k == 9) = false := by rw [beq_eq_false_iff_ne]; exact h9
              clear h9
              go_wp2_with fail
              refine (HIT.out _).mono ?_
              rintro e w4 ⟨rfl, rfl⟩
              dsimp only
              by_cases hw : tagL x.nm.data.toList = true
              · by_cases hkz : k = 0
                · have qk : decide (0 < k) = false := by simp; omega
                  have HW := Lib.hid hw
                  have HKZ := Lib.hid hkz
                  go_wp2_with fail
                  go_quiet (fail)
                  have HBQ := Lib.hid (show Below w.heap.size w ((wr.alloc (.cells #[.int .i64 x.k, .string x.nm, .int .i64 x.n] 66)).drewN nq) from ⟨HBX.out.os, HBX.out.tape, HBX.out.output, HBX.out.size, HBX.out.block⟩)
                  have HIQ := Lib.hid (show Ints ((wr.alloc (.cells #[.int .i64 x.k, .string x.nm, .int .i64 x.n] 66)).drewN nq) w.heap.size (.slice (some ⟨g, 0, none⟩) ps.length cp) ps from HIX.out)
                  go_wp2_with fail
                  all_goals first | (go_ret; exact lab_false HBQ.out) | exact ⟨⟨k + 1, by first | (simp; done) | (simp; omega), by omega, HIQ.out, HBQ.out⟩, by simp [intOf]; omega⟩
                · have qk : decide ((0 : Int) < k) = true := by simp; omega
                  obtain ⟨p', hp'⟩ : ∃ p', ps[k - 1]? = some p' := ⟨_, List.getElem?_eq_getElem (by omega)⟩
                  obtain ⟨g', cp', hA, _, _, hg', hc'⟩ := HIX.out.at_ hp'
                  simp only [Value.slice.injEq, Option.some.injEq, Addr.mk.injEq, and_true, true_and] at hA
                  obtain ⟨rfl, rfl⟩ := hA
                  have hpl' : p' < L.length := HKP.out p' (by rw [HPS.out]; exact List.mem_of_getElem? hp')
                  obtain ⟨x', hx', a0', a1', a2'⟩ := (HRV.out.since HRV.out.1 HBX.out).at_ hpl'
                  clear hp' hx'
                  have hbc : (wr.alloc (.cells #[.int .i64 x.k, .string x.nm, .int .i64 x.n] 66)).cell? ⟨wr.heap.size, 1, none⟩ = some (.string x.nm) := by rw [World.cell?_alloc_at _ _ _ _ rfl]; rfl
                  have hq1 : (1 : Int) ≤ k := by omega
                  have hq2 : (0 : Int) ≤ (k : Int) - 1 := by omega
                  have hq3 : (k : Int) - 1 < ps.length := by omega
                  have hq4 : ((k : Int) - 1).toNat = k - 1 := by omega
                  have hq5 : IntKind.i64.wrap ((k : Int) - 1) = (k : Int) - 1 := IntWalk.i64_in _ ⟨by omega, by omega⟩
                  have hq6 : (0 : Int) ≤ p' := by omega
                  have hq7 : (p' : Int) < L.length := by omega
                  have qk2 : decide (0 < k) = true := by simp; omega
                  have hk00 : 0 < k := by omega
                  go_wp2_with fail
                  go_quiet (fail)
                  have HBQ := Lib.hid (show Below w.heap.size w ((wr.alloc (.cells #[.int .i64 x.k, .string x.nm, .int .i64 x.n] 66)).drewN nq) from ⟨HBX.out.os, HBX.out.tape, HBX.out.output, HBX.out.size, HBX.out.block⟩)
                  have HIQ := Lib.hid (show Ints ((wr.alloc (.cells #[.int .i64 x.k, .string x.nm, .int .i64 x.n] 66)).drewN nq) w.heap.size (.slice (some ⟨g, 0, none⟩) ps.length cp) ps from HIX.out)
                  go_wp2_with fail
                  all_goals first | (go_ret; exact lab_false HBQ.out) | exact ⟨⟨k + 1, by first | (simp; done) | (simp; omega), by omega, HIQ.out, HBQ.out⟩, by simp [intOf]; omega⟩
              · have hw' : tagL x.nm.data.toList = false := by simpa using hw
                clear hw
                go_wp2_with fail
                all_goals (go_ret; exact lab_false HBX.out)
          · have q7 : (m.k == 7) = false := by rw [beq_eq_false_iff_ne]; exact h7
            clear h7
            by_cases h9 : x.k = 9
            · have q9 : (x.k == 9) = true := by rw [beq_iff_eq]; exact h9
              clear h9
              go_wp2_with fail
              all_goals first | (go_ret; exact lab_false HBX.out) | exact ⟨⟨k + 1, by first | (simp; done) | (simp; omega), by omega, HIX.out, HBX.out⟩, by simp [intOf]; omega⟩
            · have q9 : (x.k == 9) = false := by rw [beq_eq_false_iff_ne]; exact h9
              clear h9
              by_cases he : x.nm.toList.isEmpty = true
              · go_wp2_with fail
                go_quiet (fail)
                have HBQ := Lib.hid (show Below w.heap.size w ((wr.alloc (.cells #[.int .i64 x.k, .string x.nm, .int .i64 x.n] 66)).drewN nq) from ⟨HBX.out.os, HBX.out.tape, HBX.out.output, HBX.out.size, HBX.out.block⟩)
                have HIQ := Lib.hid (show Ints ((wr.alloc (.cells #[.int .i64 x.k, .string x.nm, .int .i64 x.n] 66)).drewN nq) w.heap.size (.slice (some ⟨g, 0, none⟩) ps.length cp) ps from HIX.out)
                go_wp2_with fail
                all_goals first | (go_ret; exact lab_false HBQ.out) | exact ⟨⟨k + 1, by first | (simp; done) | (simp; omega), by omega, HIQ.out, HBQ.out⟩, by simp [intOf]; omega⟩
              · have he' : x.nm.toList.isEmpty = false := by simpa using he
                clear he
                go_wp2_with fail
                go_ret
                exact lab_false HBX.out
      · obtain rfl : k = ps.length := by omega
        go_wp2_with fail
        go_ret
        exact lab_true HLAB.out HB.out
  · have q0 : ((ps.length : Int) != manyT n') = true := by rw [bne_iff_ne]; exact hlen
    clear hlen
    go_wp2_with fail
    go_ret
    exact lab_false HB2.out
end Shw
end Go.Proofs.YthamcklkmchkiaaDoor
