/-
  DERIVED. THE STATEMENT ShowTells, WALKED (printed by wip/gen_tells.py).
-/
import Derived.Test.YthamcklkmchkiaaDoorShOpenE
import Derived.Test.YthamcklkmchkiaaDoorShLaws5
import Derived.Test.YthamcklkmchkiaaDoorShRefE
namespace Go.Proofs.YthamcklkmchkiaaDoor
open Go.RowKit
namespace Shw
open Gl Glw Sh
set_option maxHeartbeats 1000000 in
set_option maxRecDepth 100000 in
theorem EntryNone (V : Go.Value) (A : Option Addr) (cap : Nat) (w : World) (hE : Env w) : Calls Tryd.prog 23 #[.agg #[V, .slice A 0 cap]] w (TextPost (entTx []) w) := by
  have hB0 : Below w.heap.size w (w.alloc (.cells #[V, .slice A 0 cap] 46)) := (Below.refl _ _).alloc (Nat.le_refl _) _
  have hj2 := fun wr => join_own ⟨#[59, 32]⟩ (.slice none 0 0) 0 [] wr (Strs.nil_ _ _) (by simp) (by simp [Lib.join_nil])
  have HJ2 := Lib.hid hj2
  have hj := fun w5 (hE5 : Env w5) => joined_new [iS ⟨#[60]⟩, iS ⟨(Lib.join [] [59, 32]).toArray⟩, iS ⟨#[62]⟩] w5 hE5 (ok_S _ (ok_S _ (ok_S _ ok_nil))) (by simp) (by
    simp only [itemsB_S, itemsB_nil, List.append_nil, List.length_append, Lib.join_nil]
    simp only [List.length_cons, List.length_nil]
    omega)
  have hji : itemsB [iS ⟨#[60]⟩, iS ⟨(Lib.join [] [59, 32]).toArray⟩, iS ⟨#[62]⟩] = entTx [] := by
    simp only [itemsB_S, itemsB_nil, List.append_nil]
    rfl
  rw [hji] at hj
  have HJ := Lib.hid hj
  have HB0 := Lib.hid hB0
  have HE0 := Lib.hid (hE.below hB0)
  have HE0' := Lib.hid hE
  clear hB0 hj2 hj hji hE
  go_enter Tryd.func23, Tryd.ntmps23
  go_wp2_with fail
  refine wp_loop_rounds 1 ?_
  rw [rounds_succ]
  go_wp2_with fail
  refine (HJ2.out _).mono ?_
  rintro e w5 ⟨rfl, b5⟩
  have XB5 := Lib.hid (HB0.out.trans (b5.mono HB0.out.size))
  have XE5 := Lib.hid (HE0.out.below b5)
  clear b5
  dsimp only
  go_wp2_with fail
  refine Calls.mono (HJ.out _ XE5.out) ?_
  rintro e w6 ⟨rfl, b6⟩
  dsimp only
  go_wp2
  go_ret
  exact ⟨rfl, XB5.out.trans (b6.mono XB5.out.size)⟩
set_option maxHeartbeats 1000000 in
set_option maxRecDepth 100000 in
theorem RefEntryNone (V : Go.Value) (A : Option Addr) (cap : Nat) (w : World) : Calls Tryd.prog 24 #[.agg #[V, .slice A 0 cap]] w (TextPost (entTx []) w) := by
  have hB0 : Below w.heap.size w (w.alloc (.cells #[V, .slice A 0 cap] 46)) := (Below.refl _ _).alloc (Nat.le_refl _) _
  have HB0 := Lib.hid hB0
  clear hB0
  go_enter Tryd.func24, Tryd.ntmps24
  go_wp2_with fail
  refine wp_loop_rounds 1 ?_
  rw [rounds_succ]
  go_wp2_with fail
  go_ret
  exact ⟨rfl, HB0.out⟩

def PlainRCPost (w : World) (r : RC) (w1 : World) (e : Ending) (w' : World) : Prop := ∃ bo : Bool, e = .returned (.bool bo) ∧ (bo = true → PlainRC w r) ∧ Below w1.heap.size w1 w'
theorem choice_plain {w w1 : World} {r : RC} (h : TyIn0 w r.A r.m r.c) (hm : r.m ≤ maxLen) (hb : Below w.heap.size w w1) : Calls Tryd.prog 20 #[.slice r.A r.m r.c, .int .i64 30] w1 (PlainRCPost w r w1) := by
  rcases h with h | ⟨b, off, L, hA, hl, hc, hR, hS⟩
  · rw [h]
    exact (Plain07_none r.A r.c 30 w1).mono fun e w' ⟨h1, h2⟩ => ⟨false, h1, fun h => by simp at h, h2⟩
  · by_cases h0 : L.length = 0
    · rw [← hl, h0]
      exact (Plain07_none r.A r.c 30 w1).mono fun e w' ⟨h1, h2⟩ => ⟨false, h1, fun h => by simp at h, h2⟩
    · rw [hA, ← hl]
      refine (Plain07 b off r.c 30 (by omega) L (by omega) (by omega) w1 (hR.since hR.1 hb) hS).mono fun e w' ⟨bo, h1, h2, h3⟩ => ⟨bo, h1, fun hbo => ?_, h3⟩
      obtain ⟨t, ht, hok, hlen, hnm⟩ := h2 hbo
      subst ht
      exact ⟨b, off, t, hA, hl.symm, hok, hlen, fun n hn => by have := hnm n hn; omega, hR⟩
/-- Both texts of an entry. -/
def EntBoth (w : World) (v : Go.Value) (y : ByteArray) : Prop := ∀ w1, Below w.heap.size w w1 → Env w1 →
  Calls Tryd.prog 23 #[v] w1 (fun e w' => e = .returned (.string y) ∧ Below w1.heap.size w1 w') ∧ Calls Tryd.prog 24 #[v] w1 (fun e w' => e = .returned (.string y) ∧ Below w1.heap.size w1 w')
theorem entBoth {w : World} {V : Go.Value} {A : Option Addr} {c b off : Nat} {rs : List RC} (h : 0 < rs.length → A = some ⟨b, off, none⟩ ∧ EIn w b off c rs) (hl : rs.length ≤ 20) (hp : ∀ r ∈ rs, PlainRC w r) : ∃ y, EntBoth w (.agg #[V, .slice A rs.length c]) y := by
  by_cases h0 : 0 < rs.length
  · obtain ⟨rfl, hE⟩ := h h0
    obtain ⟨cs, hm, hok, hR⟩ := choices_of rs hp hE.num
    have hcl : cs.length = rs.length := by rw [← hm, List.length_map]
    refine ⟨⟨(entTx cs).toArray⟩, fun w1 hb hEnv => ⟨?_, ?_⟩⟩
    · rw [← hcl]
      exact EntryW V b off c cs (by omega) hok w1 hEnv ((rdC_of hE.rd hm hR).since hb)
    · rw [← hcl]
      exact RefEntry V b off c cs (by omega) hok w1 ((rdC_of hE.rd hm hR).since hb)
  · have : rs.length = 0 := by omega
    rw [this]
    exact ⟨⟨(entTx []).toArray⟩, fun w1 hb hEnv => ⟨EntryNone V A c w1 hEnv, RefEntryNone V A c w1⟩⟩
/-- Both texts of an outcome. -/
def OutBoth (w : World) (v : Go.Value) (y : ByteArray) : Prop := ∀ w1, Below w.heap.size w w1 → Env w1 →
  Calls Tryd.prog 19 #[v] w1 (fun e w' => e = .returned (.string y) ∧ Below w1.heap.size w1 w') ∧ Calls Tryd.prog 22 #[v] w1 (fun e w' => e = .returned (.string y) ∧ Below w1.heap.size w1 w')
def ValBoth (w : World) (v : Go.Value) (y : ByteArray) : Prop := ∀ w1, Below w.heap.size w w1 → Env w1 →
  Calls Tryd.prog 17 #[v] w1 (fun e w' => e = .returned (.string y) ∧ Below w1.heap.size w1 w') ∧ Calls Tryd.prog 21 #[v] w1 (fun e w' => e = .returned (.string y) ∧ Below w1.heap.size w1 w')
theorem valBoth {w : World} {v : Go.Value} (h : GoodA w v) : ∃ y, ValBoth w v y := by
  obtain ⟨b, off, cap, t, rfl, hV, hf, hok, hlab⟩ := h
  refine ⟨⟨(showT t).toArray⟩, fun w1 hb hE => ⟨good_value (hV.since hb) hf hok hE, RefValue _ t hok (Nat.le_refl _) (by have := hf.1; omega) (fun n hn => hV.ok hf n hn) b off cap w1 hV.le (hV.rd.since hV.rd.1 hb)⟩⟩
theorem outBoth {w : World} {v : Go.Value} (k n : Int) (h0 : -9223372036854775808 ≤ n) (h1 : n ≤ 9223372036854775807) (h : GoodA w v) : ∃ y, OutBoth w (.agg #[.int .i64 k, v, .int .i64 n]) y := by
  by_cases hk : k = 0
  · subst hk
    obtain ⟨b, off, cap, t, rfl, hV, hf, hok, hlab⟩ := h
    refine ⟨⟨(showT t).toArray⟩, fun w1 hb hE => ⟨OutcomeDone b off cap n (flatT t) _ _ _ (showF_L hok (Nat.le_refl _)) w1 (hV.rd.since hV.rd.1 hb) hE (hV.ok hf) (by have := hf.1; omega), RefOutcomeDone t hok (by have := hf.1; omega) (fun x hx => hV.ok hf x hx) b off cap n hV.le w1 (hV.rd.since hV.rd.1 hb)⟩⟩
  · exact ⟨⟨(outL [] k n).toArray⟩, fun w1 hb hE => ⟨OutcomeElse v k n hk h0 h1 w1 hE, RefOutcomeElse v k n hk h0 h1 w1⟩⟩


theorem ValArg.since {w w' : World} {v : Go.Value} (h : ValArg w v) (hb : Below w.heap.size w w') : ValArg w' v := by
  rcases h with h | ⟨b, off, cap, L, h1, h2⟩
  · exact .inl h
  · exact .inr ⟨b, off, cap, L, h1, h2.since hb⟩
theorem GoodA.since {w w' : World} {v : Go.Value} (h : GoodA w v) (hb : Below w.heap.size w w') : GoodA w' v := by
  obtain ⟨b, off, cap, t, h1, h2, h3⟩ := h
  exact ⟨b, off, cap, t, h1, h2.since hb, h3⟩
def FewA2Post (v : Go.Value) (w w0 : World) (e : Ending) (w' : World) : Prop := ∃ bo : Bool, e = .returned (.bool bo) ∧ (bo = true → FewA w v) ∧ w0 = w'
theorem arg_few2 {w w0 : World} {v : Go.Value} (h : ValArg w v) (hb : Below w.heap.size w w0) : Calls Tryd.prog 14 #[v, .int .i64 60] w0 (FewA2Post v w w0) := by
  rcases h with ⟨A, c, rfl⟩ | ⟨b, off, cap, L, rfl, hV⟩
  · exact (Few19_none A c 60 w0).mono fun e w' ⟨h1, h2⟩ => ⟨true, h1, fun _ => .inl ⟨A, c, rfl⟩, h2⟩
  · exact (Few19 b off cap 60 L (by omega) w0 (hV.since hb).rd hV.most).mono fun e w' ⟨bo, h1, h2, h3⟩ => ⟨bo, h1, fun hb => .inr ⟨b, off, cap, L, rfl, hV, h2.1 hb⟩, h3⟩
def RightA2Post (v : Go.Value) (w w0 : World) (e : Ending) (w' : World) : Prop := ∃ bo : Bool, e = .returned (.bool bo) ∧ (bo = true → GoodA w v) ∧ Below w0.heap.size w0 w'
theorem arg_right2 {w w0 : World} {v : Go.Value} (h : FewA w v) (hb : Below w.heap.size w w0) : Calls Tryd.prog 15 #[v] w0 (RightA2Post v w w0) := by
  rcases h with ⟨A, c, rfl⟩ | ⟨b, off, cap, L, rfl, hV, hf⟩
  · exact (Right19_none A c w0).mono fun e w' ⟨h1, h2⟩ => ⟨false, h1, fun h => by simp at h, h2⟩
  · have hl := hf.1
    have hV0 := hV.since hb
    refine (Right19 b off cap L hV.ne hV.le (by omega) w0 hV0.rd (hV0.tys hf) hV.fit).mono fun e w' ⟨bo, h1, h2, h3⟩ => ⟨bo, h1, fun hbo => ?_, h3⟩
    obtain ⟨t, ht, hok⟩ := tree_of (h2 hbo).1 (by omega)
    subst ht
    refine ⟨b, off, cap, t, rfl, hV, hf, hok, nm_nil ((h2 hbo).2 _ ?_)⟩
    rw [flatT_eq]; rfl
set_option maxHeartbeats 8000000 in
set_option maxRecDepth 100000 in
theorem law_tells {v o e : Go.Value} {w : World} (hv : ValArg w v) (ho : OutArg o) (he : EntArg w e) (hE : Env w) :
    Calls Tryd.prog 8 #[v, o, e] w fun en w' => en = .returned (.bool true) ∧ Below w.heap.size w w' := by
  obtain ⟨k, oA, om, oc, on, rfl, hn0, hn1⟩ := ho
  obtain ⟨eV, eA, ec, rs, eb, eoff, rfl, heI⟩ := he
  obtain ⟨W0, hW0⟩ : ∃ W0, (w.alloc (.cells #[.int .i64 k, .slice oA om oc, .int .i64 on] 41)).alloc (.cells #[eV, .slice eA rs.length ec] 46) = W0 := ⟨_, rfl⟩
  have hB0 : Below w.heap.size w W0 := by rw [← hW0]; exact ((Below.refl _ _).alloc (Nat.le_refl _) _).alloc (by simp) _
  have hbx4 : W0.heap[w.heap.size]? = some (.cells #[.int .i64 k, .slice oA om oc, .int .i64 on] 41 (0, 0)) := by
    rw [← hW0]
    have h1 := heap_alloc_new w (.cells #[.int .i64 k, .slice oA om oc, .int .i64 on] 41)
    have hb : Below (w.alloc (.cells #[.int .i64 k, .slice oA om oc, .int .i64 on] 41)).heap.size (w.alloc (.cells #[.int .i64 k, .slice oA om oc, .int .i64 on] 41)) _ := (Below.refl _ _).alloc (Nat.le_refl _) (.cells #[eV, .slice eA rs.length ec] 46)
    exact (hb.block _ (Array.getElem?_eq_some_iff.1 h1).1).trans h1
  have hbx5 : W0.heap[w.heap.size + 1]? = some (.cells #[eV, .slice eA rs.length ec] 46 (0, 0)) := by
    rw [← hW0]
    have h1 := heap_alloc_new (w.alloc (.cells #[.int .i64 k, .slice oA om oc, .int .i64 on] 41)) (.cells #[eV, .slice eA rs.length ec] 46)
    rw [show (w.alloc (.cells #[.int .i64 k, .slice oA om oc, .int .i64 on] 41)).heap.size = w.heap.size + 1 by simp] at h1
    exact h1
  have HF := Lib.hid (arg_few2 hv hB0)
  have HB0 := Lib.hid hB0
  have HX4 := Lib.hid hbx4
  have HX5 := Lib.hid hbx5
  have HE0 := Lib.hid (hE.below hB0)
  have HE0' := Lib.hid hE
  have HEI := Lib.hid heI
  have HN := Lib.hid (And.intro hn0 hn1)
  clear hv hB0 hbx4 hbx5 hE heI hn0 hn1
  go_enter Tryd.func8, Tryd.ntmps8
  go_wp2_with fail
  clear hW0
  refine HF.out.mono ?_
  rintro en w0 ⟨bo, rfl, hb, rfl⟩
  dsimp only
  have HA1 := Lib.hid hb
  clear hb HF
  cases bo with
  | false =>
    go_wp2_with fail
    refine (alive _ HE0.out).mono ?_
    rintro en w1 ⟨rfl, b1⟩
    dsimp only
    have HB1 := Lib.hid (HB0.out.trans (b1.mono HB0.out.size))
    clear b1
    go_wp2_with fail
    go_ret
    exact ⟨rfl, HB1.out⟩
  | true =>
    have HR1 := Lib.hid (arg_right2 (HA1.out (by simp)) HB0.out)
    go_wp2_with fail
    refine HR1.out.mono ?_
    rintro en w1 ⟨bo, rfl, hg, b1⟩
    dsimp only
    have HG := Lib.hid hg
    have HB1 := Lib.hid (HB0.out.trans (b1.mono HB0.out.size))
    have HB01 := Lib.hid b1
    have HE1 := Lib.hid (HE0.out.below b1)
    have HX4a := Lib.hid ((b1.block _ (Array.getElem?_eq_some_iff.1 HX4.out).1).trans HX4.out)
    have HX5a := Lib.hid ((b1.block _ (Array.getElem?_eq_some_iff.1 HX5.out).1).trans HX5.out)
    clear b1 hg HR1 HA1
    cases bo with
    | false =>
      go_wp2_with fail
      refine (alive _ HE1.out).mono ?_
      rintro en w2 ⟨rfl, b2⟩
      dsimp only
      have HB2 := Lib.hid (HB1.out.trans (b2.mono HB1.out.size))
      clear b2
      go_wp2_with fail
      go_ret
      exact ⟨rfl, HB2.out⟩
    | true =>
      have c5 : w1.cell? ⟨w.heap.size + 1, 1, none⟩ = some (.slice eA rs.length ec) := by rw [Lib.cell_of_heap HX5a.out]; rfl
      by_cases hl : 20 < rs.length
      · have hl' : (20 : Int) < rs.length := by omega
        go_wp2_with fail
        refine (alive _ HE1.out).mono ?_
        rintro en w2 ⟨rfl, b2⟩
        dsimp only
        have HB2 := Lib.hid (HB1.out.trans (b2.mono HB1.out.size))
        clear b2
        go_wp2_with fail
        go_ret
        exact ⟨rfl, HB2.out⟩
      · have hl' : ¬ (20 : Int) < rs.length := by omega
        go_wp2_with fail
        go_loopw [7] (fun i wr => ∃ j : Nat, i = .int .i64 j ∧ j ≤ rs.length ∧ (∀ q r, q < j → rs[q]? = some r → PlainRC w r) ∧ Below w1.heap.size w1 wr) (fun i _ => rs.length - (intOf i).toNat)
        case atStart => exact ⟨0, rfl, Nat.zero_le _, fun q r h => by omega, Below.refl _ _⟩
        case round =>
          obtain ⟨j, rfl, hj, hpl, hBr⟩ := hrel
          have hs1 : w.heap.size + 1 < w1.heap.size := (Array.getElem?_eq_some_iff.1 HX5a.out).1
          have d5 : wr.cell? ⟨w.heap.size + 1, 1, none⟩ = some (.slice eA rs.length ec) := (hBr.cell (p := ⟨w.heap.size + 1, 1, none⟩) hs1).trans c5
          have HPL := Lib.hid hpl
          have HBr := Lib.hid hBr
          have HBw := Lib.hid (HB1.out.trans (hBr.mono HB1.out.size))
          have HEr := Lib.hid (HE1.out.below hBr)
          clear hpl hBr
          by_cases hlt : j < rs.length
          · obtain ⟨rfl, hEI⟩ := HEI.out (by omega)
            obtain ⟨r, hr⟩ : ∃ r, rs[j]? = some r := ⟨_, List.getElem?_eq_getElem hlt⟩
            have x1 := ((hEI.rd.since HBw.out).2 j r hr).2
            have hcp := choice_plain (hEI.ty r (List.mem_of_getElem? hr)) (hEI.tl r (List.mem_of_getElem? hr)) HBw.out
            have hj0 : (0 : Int) ≤ j := by omega
            have hlt' : (j : Int) < rs.length := by omega
            have HCP := Lib.hid hcp
            have HRJ := Lib.hid hr
            clear hcp hr hEI
            go_wp2_with fail
            refine HCP.out.mono ?_
            rintro en w2 ⟨bo, rfl, hb, b2⟩
            dsimp only
            have HPR := Lib.hid hb
            have HB2 := Lib.hid b2
            clear hb b2 HCP
            cases bo with
            | false =>
              go_wp2_with fail
              refine (alive _ (HEr.out.below HB2.out)).mono ?_
              rintro en w3 ⟨rfl, b3⟩
              dsimp only
              have h2 := HBw.out.trans (HB2.out.mono HBw.out.size)
              have HB3 := Lib.hid (h2.trans (b3.mono h2.size))
              clear b3 h2
              go_wp2_with fail
              go_ret
              exact ⟨rfl, HB3.out⟩
            | true =>
              go_wp2_with fail
              have hp := HPR.out rfl
              refine ⟨⟨j + 1, by simp, by omega, fun q r' hq hr' => ?_, HBr.out.trans (HB2.out.mono HBr.out.size)⟩, by simp [intOf]; omega⟩
              by_cases hqj : q < j
              · exact HPL.out q r' hqj hr'
              · obtain rfl : q = j := by omega
                have := HRJ.out.symm.trans hr'
                simp only [Option.some.injEq] at this
                rw [← this]
                exact hp
          · obtain rfl : j = rs.length := by omega
            have hx4 : wr.heap[w.heap.size]? = some (.cells #[.int .i64 k, .slice oA om oc, .int .i64 on] 41 (0, 0)) := (HBr.out.block _ (Array.getElem?_eq_some_iff.1 HX4a.out).1).trans HX4a.out
            have hx5 : wr.heap[w.heap.size + 1]? = some (.cells #[eV, .slice eA rs.length ec] 46 (0, 0)) := (HBr.out.block _ (Array.getElem?_eq_some_iff.1 HX5a.out).1).trans HX5a.out
            have c4 : wr.cell? ⟨w.heap.size, 1, none⟩ = some (.slice oA om oc) := by rw [Lib.cell_of_heap hx4]; rfl
            have f4 : wr.frozen? ⟨w.heap.size, 1, none⟩ = false := Lib.frozen_of_heap hx4 1
            have hy4 : (wr.setCell ⟨w.heap.size, 1, none⟩ v).heap[w.heap.size]? = some (.cells #[.int .i64 k, v, .int .i64 on] 41 (0, 0)) := by simp [World.setCell, Array.getElem?_modify, hx4]
            have hy5 : (wr.setCell ⟨w.heap.size, 1, none⟩ v).heap[w.heap.size + 1]? = some (.cells #[eV, .slice eA rs.length ec] 46 (0, 0)) := (Below.heap_setCell wr ⟨w.heap.size, 1, none⟩ _ (w.heap.size + 1) (by simp)).trans hx5
            have hb4 : Below w.heap.size w (wr.setCell ⟨w.heap.size, 1, none⟩ v) := HBw.out.setCell (Nat.le_refl _) _
            obtain ⟨W4, hW4⟩ : ∃ W4, wr.setCell ⟨w.heap.size, 1, none⟩ v = W4 := ⟨_, rfl⟩
            rw [hW4] at hy4 hy5 hb4
            have he4 := HE0'.out.below hb4
            obtain ⟨yE, hyE⟩ := entBoth (w := w) (V := eV) HEI.out (by omega) (fun r hr => by
              obtain ⟨q, hq, hqe⟩ := List.getElem_of_mem hr
              exact HPL.out q r hq (by rw [List.getElem?_eq_getElem hq, hqe]))
            have hgood := (HG.out trivial)
            obtain ⟨yV, hyV⟩ := valBoth hgood
            obtain ⟨yO, hyO⟩ := outBoth k on HN.out.1 HN.out.2 hgood
            have hlt' : ¬ (rs.length : Int) < rs.length := by omega
            obtain ⟨vA, vn, vc, hv'⟩ : ∃ A n c, v = .slice A n c := by
              obtain ⟨b', off', cap', t', h', _⟩ := hgood
              exact ⟨_, _, _, h'⟩
            subst hv'
            have HVB := Lib.hid (fun wq (hq : Below W4.heap.size W4 wq) => hyV wq (hb4.trans (hq.mono hb4.size)) (he4.below hq))
            have HOB := Lib.hid (fun wq (hq : Below W4.heap.size W4 wq) => hyO wq (hb4.trans (hq.mono hb4.size)) (he4.below hq))
            have HEB := Lib.hid (fun wq (hq : Below W4.heap.size W4 wq) => hyE wq (hb4.trans (hq.mono hb4.size)) (he4.below hq))
            have HX0 := Lib.hid (show ∀ wq, Below W4.heap.size W4 wq → wq.cell? ⟨w.heap.size, 0, none⟩ = some (.int .i64 k) from fun wq hq => by rw [Lib.cell_of_heap ((hq.block _ (Array.getElem?_eq_some_iff.1 hy4).1).trans hy4)]; rfl)
            have HX1 := Lib.hid (show ∀ wq, Below W4.heap.size W4 wq → wq.cell? ⟨w.heap.size, 1, none⟩ = some (.slice vA vn vc) from fun wq hq => by rw [Lib.cell_of_heap ((hq.block _ (Array.getElem?_eq_some_iff.1 hy4).1).trans hy4)]; rfl)
            have HX2 := Lib.hid (show ∀ wq, Below W4.heap.size W4 wq → wq.cell? ⟨w.heap.size, 2, none⟩ = some (.int .i64 on) from fun wq hq => by rw [Lib.cell_of_heap ((hq.block _ (Array.getElem?_eq_some_iff.1 hy4).1).trans hy4)]; rfl)
            have HY0 := Lib.hid (show ∀ wq, Below W4.heap.size W4 wq → wq.cell? ⟨w.heap.size + 1, 0, none⟩ = some eV from fun wq hq => by rw [Lib.cell_of_heap ((hq.block _ (Array.getElem?_eq_some_iff.1 hy5).1).trans hy5)]; rfl)
            have HY1 := Lib.hid (show ∀ wq, Below W4.heap.size W4 wq → wq.cell? ⟨w.heap.size + 1, 1, none⟩ = some (.slice eA rs.length ec) from fun wq hq => by rw [Lib.cell_of_heap ((hq.block _ (Array.getElem?_eq_some_iff.1 hy5).1).trans hy5)]; rfl)
            have HB4 := Lib.hid hb4
            have HE4 := Lib.hid he4
            clear hyE hyV hyO hgood hy4 hy5 hx4 hx5 hb4 he4
            go_wp2_with fail
            clear c4 f4 d5 c5
            have sp : Below W4.heap.size W4 W4.drew := (Below.refl _ _).drew
            refine wp_region_held_drew (S := fun wx => Below W4.heap.size W4 wx) (by kernel_rfl) sp (fun hHeld => ?_)
            clear hHeld
            refine wpAnyH_ready (rs := [0]) (by kernel_rfl) (by simp) ?_
            refine AllReadyH.cons rfl (fun K hK => ?_) AllReadyH.nil
            go_simp
            go_at_call 9
            refine (alive _ (HE4.out.below sp)).mono ?_
            rintro en wn ⟨rfl, qn⟩
            have sn : Below W4.heap.size W4 wn := sp.trans (qn.mono sp.size)
            clear qn sp
            go_wp2_with fail
            refine hK.out _ _ sn (fun _ => ?_)
            clear hK K
            have sp := sn
            clear sn
            refine wpAnyH_take (i := 1) (v := ?_) rfl (by kernel_rfl) (by kernel_rfl) (by kernel_rfl) (fun _ _ _ h => h) (Or.inl ⟨by rfl, ?_⟩) (by assumption) ?_
            rotate_left
            · (intro wq hq; clear hq; go_simp; try with_reducible rfl)
            simp only [List.getElem_toArray, List.getElem_cons_succ, List.getElem_cons_zero, Act.put, List.setIfInBounds_toArray, List.set_cons_zero, List.set_cons_succ]
            refine wpAnyH_take (i := 2) (v := ?_) rfl (by kernel_rfl) (by kernel_rfl) (by kernel_rfl) (fun _ _ _ h => h) (Or.inl ⟨by rfl, ?_⟩) (by assumption) ?_
            rotate_left
            · (intro wq hq; clear hq; go_simp; try with_reducible rfl)
            simp only [List.getElem_toArray, List.getElem_cons_succ, List.getElem_cons_zero, Act.put, List.setIfInBounds_toArray, List.set_cons_zero, List.set_cons_succ]
            refine wpAnyH_take (i := 4) (v := ?_) rfl (by kernel_rfl) (by kernel_rfl) (by kernel_rfl) (fun _ _ _ h => h) (Or.inl ⟨by rfl, ?_⟩) (by assumption) ?_
            rotate_left
            · (intro wq hq; clear hq; go_simp; try with_reducible rfl)
            simp only [List.getElem_toArray, List.getElem_cons_succ, List.getElem_cons_zero, Act.put, List.setIfInBounds_toArray, List.set_cons_zero, List.set_cons_succ]
            refine wpAnyH_ready (rs := [3]) (by kernel_rfl) (by simp) ?_
            refine AllReadyH.cons rfl (fun K hK => ?_) AllReadyH.nil
            go_simp
            go_at_call 17
            refine ((HVB.out _ sp).1).mono ?_
            rintro en wn ⟨rfl, qn⟩
            have sn : Below W4.heap.size W4 wn := sp.trans (qn.mono sp.size)
            clear qn sp
            go_wp2_with fail
            refine hK.out _ _ sn (fun _ => ?_)
            clear hK K
            have sp := sn
            clear sn
            refine wpAnyH_ready (rs := [5]) (by kernel_rfl) (by simp) ?_
            refine AllReadyH.cons rfl (fun K hK => ?_) AllReadyH.nil
            go_simp
            go_at_call 21
            refine ((HVB.out _ sp).2).mono ?_
            rintro en wn ⟨rfl, qn⟩
            have sn : Below W4.heap.size W4 wn := sp.trans (qn.mono sp.size)
            clear qn sp
            go_wp2_with fail
            refine hK.out _ _ sn (fun _ => ?_)
            clear hK K
            have sp := sn
            clear sn
            refine wpAnyH_take (i := 6) (v := ?_) rfl (by kernel_rfl) (by kernel_rfl) (by kernel_rfl) (fun _ _ _ h => h) (Or.inl ⟨by rfl, ?_⟩) (by assumption) ?_
            rotate_left
            · (intro wq hq; clear hq; go_simp; try with_reducible rfl)
            simp only [List.getElem_toArray, List.getElem_cons_succ, List.getElem_cons_zero, Act.put, List.setIfInBounds_toArray, List.set_cons_zero, List.set_cons_succ]
            refine wpAnyH_take (i := 7) (v := ?_) rfl (by kernel_rfl) (by kernel_rfl) (by kernel_rfl) (fun _ _ _ h => h) (Or.inl ⟨by rfl, ?_⟩) (by assumption) ?_
            rotate_left
            · (intro wq hq; clear hq; go_simp; try with_reducible rfl)
            simp only [List.getElem_toArray, List.getElem_cons_succ, List.getElem_cons_zero, Act.put, List.setIfInBounds_toArray, List.set_cons_zero, List.set_cons_succ]
            refine wpAnyH_take (i := 8) (v := ?_) rfl (by kernel_rfl) (by kernel_rfl) (by kernel_rfl) (fun _ _ _ h => h) (Or.inl ⟨by rfl, ?_⟩) (by assumption) ?_
            rotate_left
            · (intro wq hq; clear hq; go_simp; try with_reducible rfl)
            simp only [List.getElem_toArray, List.getElem_cons_succ, List.getElem_cons_zero, Act.put, List.setIfInBounds_toArray, List.set_cons_zero, List.set_cons_succ]
            refine wpAnyH_take (i := 9) (v := ?_) rfl (by kernel_rfl) (by kernel_rfl) (by kernel_rfl) (fun _ _ _ h => h) (Or.inl ⟨by rfl, ?_⟩) (by assumption) ?_
            rotate_left
            · (intro wq hq; have hx0 := HX0.out wq hq; have hx1 := HX1.out wq hq; have hx2 := HX2.out wq hq; clear hq; go_simp; try with_reducible rfl)
            simp only [List.getElem_toArray, List.getElem_cons_succ, List.getElem_cons_zero, Act.put, List.setIfInBounds_toArray, List.set_cons_zero, List.set_cons_succ]
            refine wpAnyH_take (i := 11) (v := ?_) rfl (by kernel_rfl) (by kernel_rfl) (by kernel_rfl) (fun _ _ _ h => h) (Or.inl ⟨by rfl, ?_⟩) (by assumption) ?_
            rotate_left
            · (intro wq hq; have hx0 := HX0.out wq hq; have hx1 := HX1.out wq hq; have hx2 := HX2.out wq hq; clear hq; go_simp; try with_reducible rfl)
            simp only [List.getElem_toArray, List.getElem_cons_succ, List.getElem_cons_zero, Act.put, List.setIfInBounds_toArray, List.set_cons_zero, List.set_cons_succ]
            refine wpAnyH_ready (rs := [10]) (by kernel_rfl) (by simp) ?_
            refine AllReadyH.cons rfl (fun K hK => ?_) AllReadyH.nil
            go_simp
            go_at_call 19
            refine ((HOB.out _ sp).1).mono ?_
            rintro en wn ⟨rfl, qn⟩
            have sn : Below W4.heap.size W4 wn := sp.trans (qn.mono sp.size)
            clear qn sp
            go_wp2_with fail
            refine hK.out _ _ sn (fun _ => ?_)
            clear hK K
            have sp := sn
            clear sn
            refine wpAnyH_ready (rs := [12]) (by kernel_rfl) (by simp) ?_
            refine AllReadyH.cons rfl (fun K hK => ?_) AllReadyH.nil
            go_simp
            go_at_call 22
            refine ((HOB.out _ sp).2).mono ?_
            rintro en wn ⟨rfl, qn⟩
            have sn : Below W4.heap.size W4 wn := sp.trans (qn.mono sp.size)
            clear qn sp
            go_wp2_with fail
            refine hK.out _ _ sn (fun _ => ?_)
            clear hK K
            have sp := sn
            clear sn
            refine wpAnyH_take (i := 13) (v := ?_) rfl (by kernel_rfl) (by kernel_rfl) (by kernel_rfl) (fun _ _ _ h => h) (Or.inl ⟨by rfl, ?_⟩) (by assumption) ?_
            rotate_left
            · (intro wq hq; clear hq; go_simp; try with_reducible rfl)
            simp only [List.getElem_toArray, List.getElem_cons_succ, List.getElem_cons_zero, Act.put, List.setIfInBounds_toArray, List.set_cons_zero, List.set_cons_succ]
            refine wpAnyH_take (i := 14) (v := ?_) rfl (by kernel_rfl) (by kernel_rfl) (by kernel_rfl) (fun _ _ _ h => h) (Or.inl ⟨by rfl, ?_⟩) (by assumption) ?_
            rotate_left
            · (intro wq hq; clear hq; go_simp; try with_reducible rfl)
            simp only [List.getElem_toArray, List.getElem_cons_succ, List.getElem_cons_zero, Act.put, List.setIfInBounds_toArray, List.set_cons_zero, List.set_cons_succ]
            refine wpAnyH_take (i := 15) (v := ?_) rfl (by kernel_rfl) (by kernel_rfl) (by kernel_rfl) (fun _ _ _ h => h) (Or.inl ⟨by rfl, ?_⟩) (by assumption) ?_
            rotate_left
            · (intro wq hq; clear hq; go_simp; try with_reducible rfl)
            simp only [List.getElem_toArray, List.getElem_cons_succ, List.getElem_cons_zero, Act.put, List.setIfInBounds_toArray, List.set_cons_zero, List.set_cons_succ]
            refine wpAnyH_take (i := 16) (v := ?_) rfl (by kernel_rfl) (by kernel_rfl) (by kernel_rfl) (fun _ _ _ h => h) (Or.inl ⟨by rfl, ?_⟩) (by assumption) ?_
            rotate_left
            · (intro wq hq; have hx0 := HY0.out wq hq; have hx1 := HY1.out wq hq; clear hq; go_simp; try with_reducible rfl)
            simp only [List.getElem_toArray, List.getElem_cons_succ, List.getElem_cons_zero, Act.put, List.setIfInBounds_toArray, List.set_cons_zero, List.set_cons_succ]
            refine wpAnyH_take (i := 18) (v := ?_) rfl (by kernel_rfl) (by kernel_rfl) (by kernel_rfl) (fun _ _ _ h => h) (Or.inl ⟨by rfl, ?_⟩) (by assumption) ?_
            rotate_left
            · (intro wq hq; have hx0 := HY0.out wq hq; have hx1 := HY1.out wq hq; clear hq; go_simp; try with_reducible rfl)
            simp only [List.getElem_toArray, List.getElem_cons_succ, List.getElem_cons_zero, Act.put, List.setIfInBounds_toArray, List.set_cons_zero, List.set_cons_succ]
            refine wpAnyH_ready (rs := [17]) (by kernel_rfl) (by simp) ?_
            refine AllReadyH.cons rfl (fun K hK => ?_) AllReadyH.nil
            go_simp
            go_at_call 23
            refine ((HEB.out _ sp).1).mono ?_
            rintro en wn ⟨rfl, qn⟩
            have sn : Below W4.heap.size W4 wn := sp.trans (qn.mono sp.size)
            clear qn sp
            go_wp2_with fail
            refine hK.out _ _ sn (fun _ => ?_)
            clear hK K
            have sp := sn
            clear sn
            refine wpAnyH_ready (rs := [19]) (by kernel_rfl) (by simp) ?_
            refine AllReadyH.cons rfl (fun K hK => ?_) AllReadyH.nil
            go_simp
            go_at_call 24
            refine ((HEB.out _ sp).2).mono ?_
            rintro en wn ⟨rfl, qn⟩
            have sn : Below W4.heap.size W4 wn := sp.trans (qn.mono sp.size)
            clear qn sp
            go_wp2_with fail
            refine hK.out _ _ sn (fun _ => ?_)
            clear hK K
            have sp := sn
            clear sn
            refine wpAnyH_take (i := 20) (v := ?_) rfl (by kernel_rfl) (by kernel_rfl) (by kernel_rfl) (fun _ _ _ h => h) (Or.inl ⟨by rfl, ?_⟩) (by assumption) ?_
            rotate_left
            · (intro wq hq; clear hq; go_simp; try with_reducible rfl)
            simp only [List.getElem_toArray, List.getElem_cons_succ, List.getElem_cons_zero, Act.put, List.setIfInBounds_toArray, List.set_cons_zero, List.set_cons_succ]
            refine wpAnyH_take (i := 21) (v := ?_) rfl (by kernel_rfl) (by kernel_rfl) (by kernel_rfl) (fun _ _ _ h => h) (Or.inl ⟨by rfl, ?_⟩) (by assumption) ?_
            rotate_left
            · (intro wq hq; clear hq; go_simp; try with_reducible rfl)
            simp only [List.getElem_toArray, List.getElem_cons_succ, List.getElem_cons_zero, Act.put, List.setIfInBounds_toArray, List.set_cons_zero, List.set_cons_succ]
            refine wpAnyH_take (i := 22) (v := ?_) rfl (by kernel_rfl) (by kernel_rfl) (by kernel_rfl) (fun _ _ _ h => h) (Or.inl ⟨by rfl, ?_⟩) (by assumption) ?_
            rotate_left
            · (intro wq hq; clear hq; go_simp; try with_reducible rfl)
            simp only [List.getElem_toArray, List.getElem_cons_succ, List.getElem_cons_zero, Act.put, List.setIfInBounds_toArray, List.set_cons_zero, List.set_cons_succ]
            refine wpAnyH_done (by kernel_rfl) ?_ _
            go_wp2_with fail
            go_ret
            exact ⟨rfl, HB4.out.trans (sp.mono HB4.out.size)⟩

end Shw
end Go.Proofs.YthamcklkmchkiaaDoor
