/-
  DERIVED. LAYER 3 (ty), the reference's, walked: the type at a node; and which types are alike, by a bool alone.
-/
import Derived.Test.YthamcklkmchkiaaDoorShRef03b
namespace Go.Proofs.YthamcklkmchkiaaDoor
open Go.RowKit
namespace Shw
open Gl Glw Sh

theorem bareT_cells (l : List TN) (h : l ≠ []) : tnsC (bareT l) = (tnsC l).set 1 (.string ⟨#[]⟩) := by
  cases l with
  | nil => exact absurd rfl h
  | cons t r => rfl

set_option maxHeartbeats 4000000 in
set_option maxRecDepth 100000 in
theorem Part03 (b off cap i : Nat) (L : List TN) (hil : i < L.length) (hcap : L.length ≤ cap) (w : World) (hRV : RdT w b off L) (hL : L.length ≤ 1000000) :
    Calls Tryd.prog 106 #[.slice (some ⟨b, off, none⟩) L.length cap, .int .i64 i] w fun e w' => ∃ g c, e = .returned (.slice (some ⟨g, 0, none⟩) (partT L i).length c) ∧ (partT L i).length ≤ c ∧ w.heap.size ≤ g ∧ RdT w' g 0 (partT L i) ∧ (∃ cs fr, w'.heap[g]? = some (.cells cs 66 fr)) ∧ Below w.heap.size w w' := by
  obtain ⟨i0, hi, hz0, hz1, hz2⟩ := info_parts infoTN
  have qi0 : decide ((i : Int) < 0) = false := by simp
  have qi1 : decide (L.length ≤ i) = false := by simp; omega
  have HRV := Lib.hid hRV
  have HI := Lib.hid hi
  have HZ0 := Lib.hid hz0
  have HZ1 := Lib.hid hz1
  have HZ2 := Lib.hid hz2
  have hb0 : Below w.heap.size w (w.alloc (.cells #[] 66)) := (Below.refl _ _).alloc (Nat.le_refl _) _
  have HB0 := Lib.hid hb0
  have he := endT_drop L i hil
  have hE := End03 b off cap i L hil _ (hRV.since hRV.1 hb0) hL
  obtain ⟨T, hT⟩ : ∃ T, i + endT (L.drop i) = T := ⟨_, rfl⟩
  rw [hT] at hE he
  have hpl := partT_len L i hil
  have hpe : partT L i = bareT ((L.drop i).take (T - i)) := by unfold partT; congr 2; omega
  have hpn : (partT L i).length = T - i := by omega
  have hs0 : (w.alloc (.cells #[] 66)).heap.size = w.heap.size + 1 := by simp
  have HS0 := Lib.hid hs0
  rw [hs0] at hE
  have HE1 := Lib.hid hE
  have HPE := Lib.hid hpe
  have HPN := Lib.hid hpn
  have HT := Lib.hid hT
  clear hRV hi hz0 hz1 hz2 hb0 hE hT hpl hpe hpn hs0
  go_enter Tryd.func106, Tryd.ntmps106
  go_wp2_with fail
  refine HE1.out.mono ?_
  rintro e w2 ⟨rfl, q2⟩
  dsimp only
  have hb2 : Below (w.heap.size + 1) (w.alloc (.cells #[] 66)) w2 := q2
  have HB2 := Lib.hid (HB0.out.trans (hb2.mono (by omega)))
  have own1 : w2.ownsRow w.heap.size 66 3 (.slice (some ⟨w.heap.size, 0, none⟩) 0 0) 0 [] :=
    own_keep (World.ownsRow_lit w #[] 0 (Nat.le_refl _) (Nat.zero_le _) rfl) (fun k hk => hb2.block k (by simp [Value.ownBlock] at hk; omega))
  obtain ⟨K, hK⟩ : ∃ K, (L.drop i).take (T - i) = K := ⟨_, rfl⟩
  have hKl : K.length = T - i := by rw [← hK, List.length_take, List.length_drop]; omega
  have hcw : Cells w2 b (off + i * 3) (tnsC K) := by
    have := ((HRV.out.since HRV.out.1 HB2.out).sub i (T - i)).cells
    rw [hK] at this
    exact this
  have hln : (tnsC K).length = (T - i) * 3 := by rw [tnsC_len, hKl]
  obtain ⟨t0, r0, rfl⟩ : ∃ t0 r0, K = t0 :: r0 := by
    cases K with
    | nil => rw [List.length_nil] at hKl; have := HT.out; omega
    | cons t r => exact ⟨t, r, rfl⟩
  have OWN1 := Lib.hid own1
  have NEWS1 := Lib.hid hcw.add
  have LEN1 := Lib.hid hln
  have ONE1 := Lib.hid (tnsC_one (t0 :: r0))
  have HKK := Lib.hid hK
  have hE0 : 0 < T - i := by have := HT.out; omega
  have hbw : w.heap.size + 1 ≤ w2.heap.size := by have := hb2.size; rw [HS0.out] at this; exact this
  clear own1 hcw hln hK hb2 q2 HE1
  go_wp2_with (at_builtin; refine wpList_append_lies _ rfl (.tmp 14) (.tmp 20) 36 rfl w.heap.size 66 i0 _ 3 32 Tryd.underlying36 HI.out HZ0.out HZ1.out HZ2.out rfl (by decide) (.slice (some ⟨w.heap.size, 0, none⟩) 0 0) 0 [] rfl OWN1.out ⟨b, off + i * 3, none⟩ (T - i) (cap - i) (tnsC (t0 :: r0)) rfl LEN1.out NEWS1.out ONE1.out hE0 (by unfold maxLen; omega) (by omega) (by omega) _ rfl ?_; intro g1 cap1 w3 hown1 hgr1 hat1 hlt1; have c1 : w3.cell? ⟨g1, 1, none⟩ = some (.string t0.nm) := (hown1.cellAt 1 (by omega)); have f1 : w3.frozen? ⟨g1, 1, none⟩ = false := hown1.frozenAt 1; have HO1 := Lib.hid hown1; have HG1 := Lib.hid hgr1; clear hown1 hgr1 hat1)
  go_ret
  have hown : w3.ownsRow w.heap.size 66 3 (.slice (some ⟨g1, 0, none⟩) (0 + (T - i)) cap1) (0 + (T - i)) ([] ++ tnsC (t0 :: r0)) := HO1.out
  rw [Nat.zero_add, List.nil_append] at hown
  have hst := hown.stored 1 (.string ⟨#[]⟩)
  have hg : w.heap.size ≤ g1 := (own_lt hown (k := g1) rfl).1
  have hnc : T - i ≤ cap1 := by
    rcases hown.2 with ⟨h', _⟩ | ⟨g', cap', cur, h', _, _, hc, _⟩
    · simp at h'
    · simp only [Value.slice.injEq, Option.some.injEq, Addr.mk.injEq, and_true, true_and] at h'
      omega
  refine ⟨g1, cap1, by rw [HPN.out]; rfl, by rw [HPN.out]; exact hnc, hg, ?_, ?_, ?_⟩
  · refine RdT.of_cells (by simp; exact hlt1) fun j u hj => ?_
    rw [HPE.out, HKK.out, bareT_cells _ (by simp)] at hj
    rw [Nat.zero_add]
    have hjl : j < ((tnsC (t0 :: r0)).set 1 (.string ⟨#[]⟩)).length := by
      rcases Nat.lt_or_ge j ((tnsC (t0 :: r0)).set 1 (.string ⟨#[]⟩)).length with h | h
      · exact h
      · rw [List.getElem?_eq_none h] at hj; cases hj
    rw [hst.1.cellAt j (by rw [List.length_set, LEN1.out] at hjl; exact hjl)]
    exact hj
  · rcases hst.1.2 with ⟨h', _⟩ | ⟨g', cap', cur, h', _, hh, _⟩
    · simp at h'
    · simp only [Value.slice.injEq, Option.some.injEq, Addr.mk.injEq, and_true, true_and] at h'
      obtain ⟨rfl, _⟩ := h'
      exact ⟨cur, (0, 0), hh⟩
  · exact (HB2.out.grown HG1.out (by omega) (fun k hk => by simp [Value.ownBlock] at hk; omega)).setCell hg _
end Shw
end Go.Proofs.YthamcklkmchkiaaDoor
