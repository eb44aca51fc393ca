/-
  DERIVED. LAYER 21 (show), the reference's, walked: a value as text, on trees.
-/
import Derived.Test.YthamcklkmchkiaaDoorShLaws5
import Derived.Test.YthamcklkmchkiaaDoorShFig
import Derived.Test.YthamcklkmchkiaaDoorGlRefQuote
import Derived.Test.YthamcklkmchkiaaDoorShPrint
namespace Go.Proofs.YthamcklkmchkiaaDoor
open Go.RowKit
namespace Shw
open Gl Glw Sh

theorem showT_len {t : VT} (hok : okT t) (hv : ∀ n ∈ flatT t, VOk n) : (showT t).length + 2000 ≤ 8000 * (flatT t).length := (show_len _ _ _ _ hv (showF_L hok (Nat.le_refl _))).1

def rowM (ts : List VT) : List (List UInt8) := ts.map fun t => (rootT t).lab.data.toList ++ (58 :: 32 :: showT t)
theorem rowTx_M : ∀ ts : List VT, rowTx (labsT ts) (showTs ts) = rowM ts
  | [] => rfl
  | t :: ts => by
    have h := rowTx_M ts
    rw [showTs]
    unfold rowTx labsT rowM at *
    rw [List.map_cons, List.zipWith_cons_cons, h, List.map_cons]
theorem join_snoc (xs : List (List UInt8)) (x sep : List UInt8) (h : xs ≠ []) : Lib.join (xs ++ [x]) sep = Lib.join xs sep ++ (sep ++ x) := by
  cases xs with
  | nil => exact absurd rfl h
  | cons y ys =>
    rw [List.cons_append, Lib.join_cons, Lib.join_cons]
    simp [Lib.joinTail]
theorem flatTs_ge : ∀ ts : List VT, ts.length ≤ (flatTs ts).length
  | [] => Nat.zero_le _
  | t :: ts => by
    have h := flatTs_ge ts
    rw [flatTs, flatT_eq, List.length_append, List.length_cons, List.length_cons]
    omega
theorem flatTs_take : ∀ (ts : List VT) (k : Nat), (flatTs (ts.take k)).length ≤ (flatTs ts).length ∧ ∀ x ∈ flatTs (ts.take k), x ∈ flatTs ts
  | [], k => by rw [List.take_nil]; exact ⟨Nat.le_refl _, fun x h => h⟩
  | t :: ts, 0 => by rw [List.take_zero, flatTs]; exact ⟨Nat.zero_le _, fun x h => by simp at h⟩
  | t :: ts, k + 1 => by
    have h := flatTs_take ts k
    rw [List.take_succ_cons, flatTs, flatTs, List.length_append, List.length_append]
    refine ⟨by omega, fun x hx => ?_⟩
    rcases List.mem_append.1 hx with hx | hx
    · exact List.mem_append_left _ hx
    · exact List.mem_append_right _ (h.2 x hx)
theorem rowM_lens : ∀ ts : List VT, okTs ts → (∀ x ∈ flatTs ts, VOk x) → lens (rowM ts) ≤ 8000 * (flatTs ts).length
  | [], _, _ => by simp [rowM, lens]
  | t :: ts, hok, hv => by
    rw [okTs] at hok
    rw [flatTs] at hv ⊢
    have h := rowM_lens ts hok.2 (fun x hx => hv x (List.mem_append_right _ hx))
    have h1 := showT_len hok.1 (fun x hx => hv x (List.mem_append_left _ hx))
    have h2 := (hv (rootT t) (by rw [flatT_eq]; simp)).2.2.1
    have h3 := size_data (rootT t).lab
    rw [List.length_append]
    simp only [rowM, lens, List.map_cons, List.sum_cons, List.length_append, List.length_cons] at h ⊢
    omega
set_option maxHeartbeats 4000000 in
set_option maxRecDepth 100000 in
theorem RefValue : ∀ (N : Nat) (t : VT), okT t → (flatT t).length ≤ N → (flatT t).length ≤ 1000 → (∀ n ∈ flatT t, VOk n) → ∀ (b off cap : Nat) (w : World), (flatT t).length ≤ cap → RdV w b off (flatT t) →
    Calls Tryd.prog 21 #[.slice (some ⟨b, off, none⟩) (flatT t).length cap] w (TextPost (showT t) w) := by
  intro N
  induction N with
  | zero => intro t _ h; rw [flatT_eq] at h; simp at h
  | succ N ih =>
    intro t hok hsz hmax hvok b off cap w hcap hR
    obtain ⟨n, ts, rfl⟩ : ∃ n ts, t = .mk n ts := by cases t with | mk n ts => exact ⟨n, ts, rfl⟩
    have hlen := showT_len hok hvok
    have hkv : kidsV (flatT (.mk n ts)) = ts.map flatT := kidsV_T _ hok (by omega)
    have hlen1 : (flatT (.mk n ts)).length = (flatTs ts).length + 1 := by rw [flatT, List.length_cons]
    have hne : 0 < (flatT (.mk n ts)).length := by omega
    have hki := Kids19 b off cap (flatT (.mk n ts)) hne hcap w hR (by omega)
    rw [hkv] at hki
    have hn0 : (flatT (.mk n ts))[0]? = some n := by rw [flatT]; rfl
    have hvn := hvok n (by rw [flatT]; exact List.mem_cons_self)
    obtain ⟨L, hL⟩ : ∃ L, flatT (.mk n ts) = L := ⟨_, rfl⟩
    rw [hL] at hlen hki hne hn0 hmax hvok hcap hR hlen1 hsz ⊢
    have IH := Lib.hid ih
    have HKI := Lib.hid hki
    have HR := Lib.hid hR
    have HLEN := Lib.hid hlen
    have HLEN1 := Lib.hid hlen1
    have HN0 := Lib.hid hn0
    have HVN := Lib.hid hvn
    have HOK := Lib.hid hok
    have HSZ := Lib.hid hsz
    have HVOK := Lib.hid hvok
    have HL := Lib.hid hL
    have hli : (0 : Int) < L.length := by omega
    clear ih hki hR hlen hlen1 hn0 hvn hok hsz hvok hL hkv hcap
    go_enter Tryd.func21, Tryd.ntmps21
    go_wp2_with fail
    refine HKI.out.mono ?_
    rintro e w2 ⟨v, rfl, hrows, q2⟩
    dsimp only
    have hml : ((ts.map flatT).map vnsC).length = ts.length := by rw [List.length_map, List.length_map]
    have hform : ∃ A c, v = .slice A ts.length c := by
      obtain ⟨_, h, _⟩ := hrows
      rw [hml] at h
      exact own_form h
    obtain ⟨A, c, hv⟩ := hform
    rw [hv] at hrows ⊢
    obtain ⟨x, hx, b0, b1, b2, b3, b4, -, -⟩ := (HR.out.since HR.out.1 q2).at_ hne
    have hxn : x = n := by
      have := HN0.out
      rw [hx] at this
      exact Option.some.inj this
    rw [hxn] at b0 b1 b2 b3 b4
    have HRW := Lib.hid hrows
    have HML := Lib.hid hml
    have HB2 := Lib.hid q2
    clear hx hxn hv hrows hml q2
    simp only [Nat.zero_mul, Nat.add_zero] at b0 b1 b2 b3 b4
    by_cases h0 : n.k = 0
    · have q0 : (n.k == 0) = true := by rw [beq_iff_eq]; exact h0
      have HS := Lib.hid (show showT (.mk n ts) = Lib.itoa n.num by rw [showT]; unfold nodeTx; rw [if_pos h0])
      clear h0
      go_wp2_with fail
      refine (Figures n.num _ HVN.out.1 HVN.out.2.1).mono ?_
      rintro e w3 ⟨rfl, q3⟩
      dsimp only
      have HB3 := Lib.hid (HB2.out.trans (q3.mono HB2.out.size))
      clear q3
      go_wp2_with fail
      go_ret
      exact ⟨by rw [HS.out]; rfl, HB3.out⟩
    · have q0 : (n.k == 0) = false := by rw [beq_eq_false_iff_ne]; exact h0
      by_cases h1 : n.k = 1
      · have q1 : (n.k == 1) = true := by rw [beq_iff_eq]; exact h1
        by_cases hn1 : n.num = 1
        · have qn : (n.num == 1) = true := by rw [beq_iff_eq]; exact hn1
          have HS := Lib.hid (show showT (.mk n ts) = [116, 114, 117, 101] by rw [showT]; unfold nodeTx; rw [if_neg h0, if_pos h1, if_pos hn1])
          clear h0 h1 hn1
          go_wp2_with fail
          go_ret
          exact ⟨by rw [HS.out]; rfl, HB2.out⟩
        · have qn : (n.num == 1) = false := by rw [beq_eq_false_iff_ne]; exact hn1
          have HS := Lib.hid (show showT (.mk n ts) = [102, 97, 108, 115, 101] by rw [showT]; unfold nodeTx; rw [if_neg h0, if_pos h1, if_neg hn1])
          clear h0 h1 hn1
          go_wp2_with fail
          go_ret
          exact ⟨by rw [HS.out]; rfl, HB2.out⟩
      · have q1 : (n.k == 1) = false := by rw [beq_eq_false_iff_ne]; exact h1
        by_cases h2 : n.k = 2
        · have q2 : (n.k == 2) = true := by rw [beq_iff_eq]; exact h2
          have HS := Lib.hid (show showT (.mk n ts) = quoteL n.nm.data.toList by rw [showT]; unfold nodeTx; rw [if_neg h0, if_neg h1, if_pos h2])
          clear h0 h1 h2
          go_wp2_with fail
          refine (refQuote n.nm _ (by have := HVN.out.2.2.2; omega)).mono ?_
          rintro e w3 ⟨rfl, rfl⟩
          dsimp only
          go_wp2_with fail
          go_ret
          exact ⟨by rw [HS.out]; rfl, HB2.out⟩
        · have q2 : (n.k == 2) = false := by rw [beq_eq_false_iff_ne]; exact h2
          by_cases h3 : n.k = 3
          · have q3 : (n.k == 3) = true := by rw [beq_iff_eq]; exact h3
            have HS := Lib.hid (show showT (.mk n ts) = [40, 41] by rw [showT]; unfold nodeTx; rw [if_neg h0, if_neg h1, if_neg h2, if_pos h3])
            clear h0 h1 h2 h3
            go_wp2_with fail
            go_ret
            exact ⟨by rw [HS.out]; rfl, HB2.out⟩
          · have q3 : (n.k == 3) = false := by rw [beq_eq_false_iff_ne]; exact h3
            by_cases h5 : n.k = 5
            · have q5 : (n.k == 5) = true := by rw [beq_iff_eq]; exact h5
              -- printed by wip/gen_refv.py: a choice
              have hm1 : manyV n = 1 := by unfold manyV; rw [if_neg (by omega), if_pos h5]
              have hok := HOK.out
              rw [okT] at hok
              have htl : ts.length = 1 := by have := hok.2.1; omega
              obtain ⟨u, rfl⟩ : ∃ u, ts = [u] := by
                match ts, htl with
                | [u], _ => exact ⟨u, rfl⟩
              have hoku : okT u := by have h := hok.2.2.2; rw [okTs] at h; exact h.1
              have hfu : L.length = (flatT u).length + 1 := by have h := HLEN1.out; rw [flatTs, flatTs, List.append_nil] at h; exact h
              have hmu : ∀ x ∈ flatT u, x ∈ L := fun x hx => by rw [← HL.out, flatT, flatTs]; simp [hx]
              have hlu := showT_len hoku (fun x hx => HVOK.out x (hmu x hx))
              have hS := show showT (.mk n [u]) = 91 :: (n.nm.data.toList ++ (58 :: 32 :: (showT u ++ [93]))) by rw [showT]; unfold nodeTx; rw [if_neg h0, if_neg h1, if_neg h2, if_neg h3, if_pos h5, showTs, showTs]; rfl
              have HS := Lib.hid hS
              have hrow := HRW.out.row (i := 0) (l := vnsC (flatT u)) rfl
              rw [HML.out] at hrow
              obtain ⟨bA, cA, g, m, c', e1, hcA, hbA, hbA2, x1, hm1', hmc, hgb, hg, hc1⟩ := hrow
              simp only [Value.slice.injEq, true_and] at e1
              obtain ⟨rfl, rfl⟩ := e1
              have hml : m = (flatT u).length := by rw [vnsC_len] at hm1'; omega
              subst hml
              have hrd : RdV w2 g 0 (flatT u) := RdV.of_cells hg hc1
              have hbw : b < w2.heap.size := Nat.lt_of_lt_of_le HR.out.1 HB2.out.size
              have HN := Lib.hid (show ∀ wq, Below w2.heap.size w2 wq → wq.cell? ⟨b, off + 2, none⟩ = some (.string n.nm) from fun wq hq => (hq.cell (p := ⟨b, off + 2, none⟩) hbw).trans b2)
              have HX := Lib.hid (show ∀ wq, Below w2.heap.size w2 wq → wq.cell? ⟨bA, 0, none⟩ = some (.slice (some ⟨g, 0, none⟩) (flatT u).length c') from fun wq hq => (hq.cell (p := ⟨bA, 0, none⟩) hbA2).trans x1)
              have hS0 : Below w2.heap.size w2 w2.drew := (Below.refl _ _).drew
              have hcall := IH.out u hoku (by have := HSZ.out; omega) (by omega) (fun x hx => HVOK.out x (hmu x hx)) g 0 c' w2.drew hmc hrd
              obtain ⟨yu, hyu⟩ : ∃ y : ByteArray, (⟨(showT u).toArray⟩ : ByteArray) = y := ⟨_, rfl⟩
              have hyl : yu.data.toList = showT u := by rw [← hyu]
              have sy : yu.size ≤ 8000000 := by rw [← size_data, hyl]; omega
              unfold TextPost at hcall
              rw [hyu] at hcall
              have HCALL := Lib.hid hcall
              obtain ⟨nm, hnm⟩ : ∃ nm, n.nm = nm := ⟨_, rfl⟩
              have hnms : nm.size ≤ 1000 := by rw [← hnm]; exact HVN.out.2.2.2
              have f1 : (9223372036854775807 < 1 + nm.size) = False := by simp; omega
              obtain ⟨A1, hA1⟩ : ∃ A1, (⟨#[91]⟩ : ByteArray) ++ nm = A1 := ⟨_, rfl⟩
              have s1 : A1.size = 1 + nm.size := by rw [← hA1, ByteArray.size_append]; rfl
              have f2 : (9223372036854775807 < A1.size + 2) = False := by simp; omega
              obtain ⟨A2, hA2⟩ : ∃ A2, A1 ++ (⟨#[58, 32]⟩ : ByteArray) = A2 := ⟨_, rfl⟩
              have s2 : A2.size = A1.size + 2 := by rw [← hA2, ByteArray.size_append]; rfl
              have f3 : (9223372036854775807 < A2.size + yu.size) = False := by simp; omega
              obtain ⟨A3, hA3⟩ : ∃ A3, A2 ++ yu = A3 := ⟨_, rfl⟩
              have s3 : A3.size = A2.size + yu.size := by rw [← hA3, ByteArray.size_append]
              have f4 : (9223372036854775807 < A3.size + 1) = False := by simp; omega
              have hfin : (A3 ++ (⟨#[93]⟩ : ByteArray)).data.toList = showT (.mk n [u]) := by
                rw [app_data, ← hA3, app_data, ← hA2, app_data, ← hA1, app_data, hyl, HS.out, hnm]
                simp
              have HFIN := Lib.hid hfin
              have HX' := HX
              have HN' := HN
              rw [hnm] at HN'
              clear HN HX hm1 hok hoku hfu hmu hlu hS hm1' hmc hgb hg hc1 hrd hcall hyu hyl hnm hnms s1 s2 s3 hfin h0 h1 h2 h3 h5 x1 htl
              go_wp2_with fail
              refine wp_region_held_drew (S := fun wx => Below w2.heap.size w2 wx) (by kernel_rfl) hS0 (fun hHeld => ?_)
              clear hHeld
              refine wpAnyH_take (i := 0) (v := ?_) rfl (by kernel_rfl) (by kernel_rfl) (by kernel_rfl) (fun _ _ _ h => h) (Or.inl ⟨by rfl, ?_⟩) (by assumption) ?_
              rotate_left
              · (intro wq hq; clear hq; go_simp; try with_reducible rfl)
              simp only [List.getElem_toArray, List.getElem_cons_zero, Act.put, List.setIfInBounds_toArray, List.set_cons_zero, List.set_cons_succ]
              refine wpAnyH_take (i := 1) (v := ?_) rfl (by kernel_rfl) (by kernel_rfl) (by kernel_rfl) (fun _ _ _ h => h) (Or.inl ⟨by rfl, ?_⟩) (by assumption) ?_
              rotate_left
              · (intro wq hq; clear hq; go_simp; try with_reducible rfl)
              simp only [List.getElem_toArray, List.getElem_cons_succ, List.getElem_cons_zero, Act.put, List.setIfInBounds_toArray, List.set_cons_zero, List.set_cons_succ]
              refine wpAnyH_take (i := 2) (v := ?_) rfl (by kernel_rfl) (by kernel_rfl) (by kernel_rfl) (fun _ _ _ h => h) (Or.inl ⟨by rfl, ?_⟩) (by assumption) ?_
              rotate_left
              · (intro wq hq; clear hq; go_simp; try with_reducible rfl)
              simp only [List.getElem_toArray, List.getElem_cons_succ, List.getElem_cons_zero, Act.put, List.setIfInBounds_toArray, List.set_cons_zero, List.set_cons_succ]
              refine wpAnyH_take (i := 3) (v := ?_) rfl (by kernel_rfl) (by kernel_rfl) (by kernel_rfl) (fun _ _ _ h => h) (Or.inl ⟨by rfl, ?_⟩) (by assumption) ?_
              rotate_left
              · (intro wq hq; have hx := HN'.out wq hq; clear hq; go_simp; try with_reducible rfl)
              simp only [List.getElem_toArray, List.getElem_cons_succ, List.getElem_cons_zero, Act.put, List.setIfInBounds_toArray, List.set_cons_zero, List.set_cons_succ]
              refine wpAnyH_take (i := 4) (v := ?_) rfl (by kernel_rfl) (by kernel_rfl) (by kernel_rfl) (fun _ _ _ h => h) (Or.inl ⟨by rfl, ?_⟩) (by assumption) ?_
              rotate_left
              · (intro wq hq; clear hq; go_simp; try with_reducible rfl)
              simp only [List.getElem_toArray, List.getElem_cons_succ, List.getElem_cons_zero, Act.put, List.setIfInBounds_toArray, List.set_cons_zero, List.set_cons_succ]
              refine wpAnyH_take (i := 5) (v := ?_) rfl (by kernel_rfl) (by kernel_rfl) (by kernel_rfl) (fun _ _ _ h => h) (Or.inl ⟨by rfl, ?_⟩) (by assumption) ?_
              rotate_left
              · (intro wq hq; clear hq; go_simp; try with_reducible rfl)
              simp only [List.getElem_toArray, List.getElem_cons_succ, List.getElem_cons_zero, Act.put, List.setIfInBounds_toArray, List.set_cons_zero, List.set_cons_succ]
              refine wpAnyH_take (i := 6) (v := ?_) rfl (by kernel_rfl) (by kernel_rfl) (by kernel_rfl) (fun _ _ _ h => h) (Or.inl ⟨by rfl, ?_⟩) (by assumption) ?_
              rotate_left
              · (intro wq hq; clear hq; go_simp; try with_reducible rfl)
              simp only [List.getElem_toArray, List.getElem_cons_succ, List.getElem_cons_zero, Act.put, List.setIfInBounds_toArray, List.set_cons_zero, List.set_cons_succ]
              refine wpAnyH_take (i := 7) (v := ?_) rfl (by kernel_rfl) (by kernel_rfl) (by kernel_rfl) (fun _ _ _ h => h) (Or.inl ⟨by rfl, ?_⟩) (by assumption) ?_
              rotate_left
              · (intro wq hq; clear hq; go_simp; try with_reducible rfl)
              simp only [List.getElem_toArray, List.getElem_cons_succ, List.getElem_cons_zero, Act.put, List.setIfInBounds_toArray, List.set_cons_zero, List.set_cons_succ]
              refine wpAnyH_take (i := 8) (v := ?_) rfl (by kernel_rfl) (by kernel_rfl) (by kernel_rfl) (fun _ _ _ h => h) (Or.inl ⟨by rfl, ?_⟩) (by assumption) ?_
              rotate_left
              · (intro wq hq; have hx := HX'.out wq hq; clear hq; go_simp; try with_reducible rfl)
              simp only [List.getElem_toArray, List.getElem_cons_succ, List.getElem_cons_zero, Act.put, List.setIfInBounds_toArray, List.set_cons_zero, List.set_cons_succ]
              refine wpAnyH_ready (rs := [9]) (by kernel_rfl) (by simp) ?_
              refine AllReadyH.cons rfl (fun K hK => ?_) AllReadyH.nil
              go_simp
              go_at_call 21
              refine HCALL.out.mono ?_
              rintro e w5 ⟨rfl, q5'⟩
              have s5 : Below w2.heap.size w2 w5 := hS0.trans (q5'.mono (show w2.heap.size ≤ w2.drew.heap.size from Nat.le_refl _))
              clear q5'
              go_wp2_with fail
              refine hK.out _ _ s5 (fun _ => ?_)
              clear hK K
              refine wpAnyH_take (i := 10) (v := ?_) rfl (by kernel_rfl) (by kernel_rfl) (by kernel_rfl) (fun _ _ _ h => h) (Or.inl ⟨by rfl, ?_⟩) (by assumption) ?_
              rotate_left
              · (intro wq hq; clear hq; go_simp; try with_reducible rfl)
              simp only [List.getElem_toArray, List.getElem_cons_succ, List.getElem_cons_zero, Act.put, List.setIfInBounds_toArray, List.set_cons_zero, List.set_cons_succ]
              refine wpAnyH_take (i := 11) (v := ?_) rfl (by kernel_rfl) (by kernel_rfl) (by kernel_rfl) (fun _ _ _ h => h) (Or.inl ⟨by rfl, ?_⟩) (by assumption) ?_
              rotate_left
              · (intro wq hq; clear hq; go_simp; try with_reducible rfl)
              simp only [List.getElem_toArray, List.getElem_cons_succ, List.getElem_cons_zero, Act.put, List.setIfInBounds_toArray, List.set_cons_zero, List.set_cons_succ]
              refine wpAnyH_take (i := 12) (v := ?_) rfl (by kernel_rfl) (by kernel_rfl) (by kernel_rfl) (fun _ _ _ h => h) (Or.inl ⟨by rfl, ?_⟩) (by assumption) ?_
              rotate_left
              · (intro wq hq; clear hq; go_simp; try with_reducible rfl)
              simp only [List.getElem_toArray, List.getElem_cons_succ, List.getElem_cons_zero, Act.put, List.setIfInBounds_toArray, List.set_cons_zero, List.set_cons_succ]
              refine wpAnyH_done (by kernel_rfl) ?_ _
              go_wp2_with fail
              go_ret
              exact text_post HFIN.out (HB2.out.trans (s5.mono HB2.out.size))
            · have q5 : (n.k == 5) = false := by rw [beq_eq_false_iff_ne]; exact h5
              by_cases h4 : n.k = 4
              · have q4 : (n.k == 4) = true := by rw [beq_iff_eq]; exact h4
                -- printed by wip/gen_refv.py: a record
                have hok := HOK.out
                rw [okT] at hok
                have hoks := hok.2.2.2
                have htl : ts.length ≤ 1000 := by have h1 := flatTs_ge ts; have h2 := HLEN1.out; omega
                have hmu : ∀ x ∈ flatTs ts, VOk x := fun x hx => HVOK.out x (by rw [← HL.out, flatT]; exact List.mem_cons_of_mem _ hx)
                have hS := show showT (.mk n ts) = 123 :: (Lib.join (rowM ts) [44, 32] ++ [125]) by rw [showT]; unfold nodeTx; rw [if_neg h0, if_neg h1, if_neg h2, if_neg h3, if_neg h5, if_pos h4, rowTx_M]
                have HS := Lib.hid hS
                have HOKS := Lib.hid hoks
                have HMU := Lib.hid hmu
                clear hok hoks hS hmu h0 h1 h2 h3 h5 h4
                go_wp2_with fail
                go_loopw [4, 5] (fun o i wr => ∃ (k : Nat) (O : ByteArray), o = .string O ∧ i = .int .i64 k ∧ k ≤ ts.length ∧ O.data.toList = 123 :: Lib.join (rowM (ts.take k)) [44, 32] ∧ Below w2.heap.size w2 wr) (fun _ i _ => ts.length - (intOf i).toNat)
                case atStart => exact ⟨0, ⟨#[123]⟩, rfl, rfl, Nat.zero_le _, by rw [List.take_zero, rowM, List.map_nil, Lib.join_nil], Below.refl _ _⟩
                case round =>
                  obtain ⟨k, O, rfl, rfl, hk, hO, hBr⟩ := hrel
                  have HO := Lib.hid hO
                  have HBr := Lib.hid hBr
                  have HXr := Lib.hid (HB2.out.trans (hBr.mono HB2.out.size))
                  have hOs : O.size ≤ 9000000 := by
                    have h1 := join_len (rowM (ts.take k))
                    have h2 := rowM_lens (ts.take k) (okTs_of fun t ht => okTs_mem HOKS.out t (List.mem_of_mem_take ht)) (fun x hx => HMU.out x ((flatTs_take ts k).2 x hx))
                    have h3 := (flatTs_take ts k).1
                    have h4 := HLEN1.out
                    have h5 := congrArg List.length hO
                    rw [size_data, List.length_cons] at h5
                    omega
                  clear hO hBr
                  by_cases hlt : k < ts.length
                  · obtain ⟨u, hu⟩ : ∃ u, ts[k]? = some u := ⟨_, List.getElem?_eq_getElem hlt⟩
                    have hum : u ∈ ts := List.mem_of_getElem? hu
                    have hoku := okTs_mem HOKS.out u hum
                    have hfu : (flatT u).length ≤ (flatTs ts).length := flat_mem ts u hum
                    have hmu : ∀ x ∈ flatT u, VOk x := fun x hx => HMU.out x (by rw [flatTs_join]; exact List.mem_flatten_of_mem (List.mem_map_of_mem hum) hx)
                    have hlu := showT_len hoku hmu
                    have hrow := HRW.out.row (i := k) (l := vnsC (flatT u)) (by rw [List.getElem?_map, List.getElem?_map, hu]; rfl)
                    rw [HML.out] at hrow
                    obtain ⟨bA, cA, g, m, c', e1, hcA, hbA, hbA2, x1, hm1', hmc, hgb, hg, hc1⟩ := hrow
                    simp only [Value.slice.injEq, true_and] at e1
                    obtain ⟨rfl, rfl⟩ := e1
                    have hml : m = (flatT u).length := by rw [vnsC_len] at hm1'; omega
                    subst hml
                    have hrd0 : RdV w2 g 0 (flatT u) := RdV.of_cells hg hc1
                    have hrd : RdV wr g 0 (flatT u) := hrd0.since hg HBr.out
                    have hne1 : 0 < (flatT u).length := by rw [flatT_eq, List.length_cons]; omega
                    have hbA3 : bA < wr.heap.size := Nat.lt_of_lt_of_le hbA2 HBr.out.size
                    have hg3 : g < wr.heap.size := Nat.lt_of_lt_of_le hg HBr.out.size
                    have x2 : wr.cell? ⟨bA, k, none⟩ = some (.slice (some ⟨g, 0, none⟩) (flatT u).length c') := (HBr.out.cell (p := ⟨bA, k, none⟩) hbA2).trans x1
                    obtain ⟨nx, hnx, -, l1, -, -, -, -, -⟩ := hrd.at_ hne1
                    have hnr : nx = rootT u := by rw [flatT_eq] at hnx; exact (Option.some.inj hnx).symm
                    rw [hnr] at l1
                    simp only [Nat.zero_mul, Nat.zero_add] at l1
                    obtain ⟨lb, hlb⟩ : ∃ lb, (rootT u).lab = lb := ⟨_, rfl⟩
                    rw [hlb] at l1
                    have hlbs : lb.size ≤ 1000 := by rw [← hlb]; exact (hmu (rootT u) (by rw [flatT_eq]; exact List.mem_cons_self)).2.2.1
                    have HX := Lib.hid (show ∀ wq, Below wr.heap.size wr wq → wq.cell? ⟨bA, k, none⟩ = some (.slice (some ⟨g, 0, none⟩) (flatT u).length c') from fun wq hq => (hq.cell (p := ⟨bA, k, none⟩) hbA3).trans x2)
                    have HLB := Lib.hid (show ∀ wq, Below wr.heap.size wr wq → wq.cell? ⟨g, 1, none⟩ = some (.string lb) from fun wq hq => (hq.cell (p := ⟨g, 1, none⟩) hg3).trans l1)
                    have hS0 : Below wr.heap.size wr wr.drew := (Below.refl _ _).drew
                    have hcall := IH.out u hoku (by have := HSZ.out; have := HLEN1.out; omega) (by have := HLEN1.out; omega) hmu g 0 c' wr.drew hmc hrd
                    obtain ⟨yu, hyu⟩ : ∃ y : ByteArray, (⟨(showT u).toArray⟩ : ByteArray) = y := ⟨_, rfl⟩
                    have hyl : yu.data.toList = showT u := by rw [← hyu]
                    have sy : yu.size ≤ 8000000 := by rw [← size_data, hyl]; have := HLEN1.out; omega
                    unfold TextPost at hcall
                    rw [hyu] at hcall
                    have HCALL := Lib.hid hcall
                    have htk : rowM (ts.take (k + 1)) = rowM (ts.take k) ++ [lb.data.toList ++ (58 :: 32 :: showT u)] := by
                      rw [List.take_add_one, hu]
                      unfold rowM
                      rw [List.map_append, ← hlb]; rfl
                    have HTK := Lib.hid htk
                    have HYL := Lib.hid hyl
                    have hk0 : (0 : Int) ≤ k := by omega
                    have hlt' : (k : Int) < ts.length := by omega
                    have hne2 : (0 : Int) < (flatT u).length := by omega
                    clear hu hum hoku hfu hmu hlu x1 hm1' hmc hgb hg hc1 hrd0 hrd hnx hnr l1 hlb hcall hyu hyl htk x2
                    by_cases hkz : k = 0
                    · have qk : decide (0 < k) = false := by simp; omega
                      have hO0 : O.data.toList = [123] := by rw [HO.out, hkz, List.take_zero, rowM, List.map_nil, Lib.join_nil]
                      have htk0 : rowM (ts.take k) = [] := by rw [hkz, List.take_zero, rowM, List.map_nil]
                      have f1 : (9223372036854775807 < O.size + lb.size) = False := by simp; omega
                      obtain ⟨A1, hA1⟩ : ∃ A1, O ++ lb = A1 := ⟨_, rfl⟩
                      have s1 : A1.size = O.size + lb.size := by rw [← hA1, ByteArray.size_append]
                      have f2 : (9223372036854775807 < A1.size + 2) = False := by simp; omega
                      obtain ⟨A2, hA2⟩ : ∃ A2, A1 ++ (⟨#[58, 32]⟩ : ByteArray) = A2 := ⟨_, rfl⟩
                      have s2 : A2.size = A1.size + 2 := by rw [← hA2, ByteArray.size_append]; rfl
                      have f3 : (9223372036854775807 < A2.size + yu.size) = False := by simp; omega
                      obtain ⟨A3, hA3⟩ : ∃ A3, A2 ++ yu = A3 := ⟨_, rfl⟩
                      have hfin : A3.data.toList = 123 :: Lib.join (rowM (ts.take (k + 1))) [44, 32] := by
                        rw [← hA3, app_data, ← hA2, app_data, ← hA1, app_data, HYL.out, hO0, HTK.out, htk0, List.nil_append, Lib.join_one]
                        simp
                      have HFIN := Lib.hid hfin
                      clear s1 s2 hfin hO0 htk0 hkz
                      go_wp2_with fail
                      refine wp_region_held_drew (S := fun wx => Below wr.heap.size wr wx) (by kernel_rfl) hS0 (fun hHeld => ?_)
                      clear hHeld
                      refine wpAnyH_take (i := 0) (v := ?_) rfl (by kernel_rfl) (by kernel_rfl) (by kernel_rfl) (fun _ _ _ h => h) (Or.inl ⟨by rfl, ?_⟩) (by assumption) ?_
                      rotate_left
                      · (intro wq hq; clear hq; go_simp; try with_reducible rfl)
                      simp only [List.getElem_toArray, List.getElem_cons_zero, Act.put, List.setIfInBounds_toArray, List.set_cons_zero, List.set_cons_succ]
                      refine wpAnyH_take (i := 1) (v := ?_) rfl (by kernel_rfl) (by kernel_rfl) (by kernel_rfl) (fun _ _ _ h => h) (Or.inl ⟨by rfl, ?_⟩) (by assumption) ?_
                      rotate_left
                      · (intro wq hq; clear hq; go_simp; try with_reducible rfl)
                      simp only [List.getElem_toArray, List.getElem_cons_succ, List.getElem_cons_zero, Act.put, List.setIfInBounds_toArray, List.set_cons_zero, List.set_cons_succ]
                      refine wpAnyH_take (i := 2) (v := ?_) rfl (by kernel_rfl) (by kernel_rfl) (by kernel_rfl) (fun _ _ _ h => h) (Or.inl ⟨by rfl, ?_⟩) (by assumption) ?_
                      rotate_left
                      · (intro wq hq; clear hq; go_simp; try with_reducible rfl)
                      simp only [List.getElem_toArray, List.getElem_cons_succ, List.getElem_cons_zero, Act.put, List.setIfInBounds_toArray, List.set_cons_zero, List.set_cons_succ]
                      refine wpAnyH_take (i := 3) (v := ?_) rfl (by kernel_rfl) (by kernel_rfl) (by kernel_rfl) (fun _ _ _ h => h) (Or.inl ⟨by rfl, ?_⟩) (by assumption) ?_
                      rotate_left
                      · (intro wq hq; clear hq; go_simp; try with_reducible rfl)
                      simp only [List.getElem_toArray, List.getElem_cons_succ, List.getElem_cons_zero, Act.put, List.setIfInBounds_toArray, List.set_cons_zero, List.set_cons_succ]
                      refine wpAnyH_take (i := 4) (v := ?_) rfl (by kernel_rfl) (by kernel_rfl) (by kernel_rfl) (fun _ _ _ h => h) (Or.inl ⟨by rfl, ?_⟩) (by assumption) ?_
                      rotate_left
                      · (intro wq hq; have hx := HX.out wq hq; clear hq; go_simp; try with_reducible rfl)
                      simp only [List.getElem_toArray, List.getElem_cons_succ, List.getElem_cons_zero, Act.put, List.setIfInBounds_toArray, List.set_cons_zero, List.set_cons_succ]
                      refine wpAnyH_take (i := 5) (v := ?_) rfl (by kernel_rfl) (by kernel_rfl) (by kernel_rfl) (fun _ _ _ h => h) (Or.inl ⟨by rfl, ?_⟩) (by assumption) ?_
                      rotate_left
                      · (intro wq hq; clear hq; go_simp; try with_reducible rfl)
                      simp only [List.getElem_toArray, List.getElem_cons_succ, List.getElem_cons_zero, Act.put, List.setIfInBounds_toArray, List.set_cons_zero, List.set_cons_succ]
                      refine wpAnyH_take (i := 6) (v := ?_) rfl (by kernel_rfl) (by kernel_rfl) (by kernel_rfl) (fun _ _ _ h => h) (Or.inl ⟨by rfl, ?_⟩) (by assumption) ?_
                      rotate_left
                      · (intro wq hq; clear hq; go_simp; try with_reducible rfl)
                      simp only [List.getElem_toArray, List.getElem_cons_succ, List.getElem_cons_zero, Act.put, List.setIfInBounds_toArray, List.set_cons_zero, List.set_cons_succ]
                      refine wpAnyH_take (i := 7) (v := ?_) rfl (by kernel_rfl) (by kernel_rfl) (by kernel_rfl) (fun _ _ _ h => h) (Or.inl ⟨by rfl, ?_⟩) (by assumption) ?_
                      rotate_left
                      · (intro wq hq; have hx := HLB.out wq hq; clear hq; go_simp; try with_reducible rfl)
                      simp only [List.getElem_toArray, List.getElem_cons_succ, List.getElem_cons_zero, Act.put, List.setIfInBounds_toArray, List.set_cons_zero, List.set_cons_succ]
                      refine wpAnyH_take (i := 8) (v := ?_) rfl (by kernel_rfl) (by kernel_rfl) (by kernel_rfl) (fun _ _ _ h => h) (Or.inl ⟨by rfl, ?_⟩) (by assumption) ?_
                      rotate_left
                      · (intro wq hq; clear hq; go_simp; try with_reducible rfl)
                      simp only [List.getElem_toArray, List.getElem_cons_succ, List.getElem_cons_zero, Act.put, List.setIfInBounds_toArray, List.set_cons_zero, List.set_cons_succ]
                      refine wpAnyH_take (i := 9) (v := ?_) rfl (by kernel_rfl) (by kernel_rfl) (by kernel_rfl) (fun _ _ _ h => h) (Or.inl ⟨by rfl, ?_⟩) (by assumption) ?_
                      rotate_left
                      · (intro wq hq; clear hq; go_simp; try with_reducible rfl)
                      simp only [List.getElem_toArray, List.getElem_cons_succ, List.getElem_cons_zero, Act.put, List.setIfInBounds_toArray, List.set_cons_zero, List.set_cons_succ]
                      refine wpAnyH_take (i := 10) (v := ?_) rfl (by kernel_rfl) (by kernel_rfl) (by kernel_rfl) (fun _ _ _ h => h) (Or.inl ⟨by rfl, ?_⟩) (by assumption) ?_
                      rotate_left
                      · (intro wq hq; clear hq; go_simp; try with_reducible rfl)
                      simp only [List.getElem_toArray, List.getElem_cons_succ, List.getElem_cons_zero, Act.put, List.setIfInBounds_toArray, List.set_cons_zero, List.set_cons_succ]
                      refine wpAnyH_take (i := 11) (v := ?_) rfl (by kernel_rfl) (by kernel_rfl) (by kernel_rfl) (fun _ _ _ h => h) (Or.inl ⟨by rfl, ?_⟩) (by assumption) ?_
                      rotate_left
                      · (intro wq hq; clear hq; go_simp; try with_reducible rfl)
                      simp only [List.getElem_toArray, List.getElem_cons_succ, List.getElem_cons_zero, Act.put, List.setIfInBounds_toArray, List.set_cons_zero, List.set_cons_succ]
                      refine wpAnyH_take (i := 12) (v := ?_) rfl (by kernel_rfl) (by kernel_rfl) (by kernel_rfl) (fun _ _ _ h => h) (Or.inl ⟨by rfl, ?_⟩) (by assumption) ?_
                      rotate_left
                      · (intro wq hq; clear hq; go_simp; try with_reducible rfl)
                      simp only [List.getElem_toArray, List.getElem_cons_succ, List.getElem_cons_zero, Act.put, List.setIfInBounds_toArray, List.set_cons_zero, List.set_cons_succ]
                      refine wpAnyH_take (i := 13) (v := ?_) rfl (by kernel_rfl) (by kernel_rfl) (by kernel_rfl) (fun _ _ _ h => h) (Or.inl ⟨by rfl, ?_⟩) (by assumption) ?_
                      rotate_left
                      · (intro wq hq; have hx := HX.out wq hq; clear hq; go_simp; try with_reducible rfl)
                      simp only [List.getElem_toArray, List.getElem_cons_succ, List.getElem_cons_zero, Act.put, List.setIfInBounds_toArray, List.set_cons_zero, List.set_cons_succ]
                      refine wpAnyH_ready (rs := [14]) (by kernel_rfl) (by simp) ?_
                      refine AllReadyH.cons rfl (fun K hK => ?_) AllReadyH.nil
                      go_simp
                      go_at_call 21
                      refine HCALL.out.mono ?_
                      rintro e w5 ⟨rfl, q5'⟩
                      have s5 : Below wr.heap.size wr w5 := hS0.trans (q5'.mono (show wr.heap.size ≤ wr.drew.heap.size from Nat.le_refl _))
                      clear q5'
                      go_wp2_with fail
                      refine hK.out _ _ s5 (fun _ => ?_)
                      clear hK K
                      refine wpAnyH_take (i := 15) (v := ?_) rfl (by kernel_rfl) (by kernel_rfl) (by kernel_rfl) (fun _ _ _ h => h) (Or.inl ⟨by rfl, ?_⟩) (by assumption) ?_
                      rotate_left
                      · (intro wq hq; clear hq; go_simp; try with_reducible rfl)
                      simp only [List.getElem_toArray, List.getElem_cons_succ, List.getElem_cons_zero, Act.put, List.setIfInBounds_toArray, List.set_cons_zero, List.set_cons_succ]
                      refine wpAnyH_take (i := 16) (v := ?_) rfl (by kernel_rfl) (by kernel_rfl) (by kernel_rfl) (fun _ _ _ h => h) (Or.inl ⟨by rfl, ?_⟩) (by assumption) ?_
                      rotate_left
                      · (intro wq hq; clear hq; go_simp; try with_reducible rfl)
                      simp only [List.getElem_toArray, List.getElem_cons_succ, List.getElem_cons_zero, Act.put, List.setIfInBounds_toArray, List.set_cons_zero, List.set_cons_succ]
                      refine wpAnyH_done (by kernel_rfl) ?_ _
                      go_wp2_with fail
                      exact ⟨⟨k + 1, A3, rfl, by simp, by omega, HFIN.out, HBr.out.trans (s5.mono HBr.out.size)⟩, by simp [intOf]; omega⟩
                    · have qk : decide (0 < k) = true := by simp; omega
                      have htne : rowM (ts.take k) ≠ [] := by
                        intro e
                        have := congrArg List.length e
                        unfold rowM at this
                        rw [List.length_map, List.length_take, List.length_nil] at this
                        omega
                      have f0 : (9223372036854775807 < O.size + 2) = False := by simp; omega
                      obtain ⟨A0, hA0⟩ : ∃ A0, O ++ (⟨#[44, 32]⟩ : ByteArray) = A0 := ⟨_, rfl⟩
                      have s0 : A0.size = O.size + 2 := by rw [← hA0, ByteArray.size_append]; rfl
                      have f1 : (9223372036854775807 < A0.size + lb.size) = False := by simp; omega
                      obtain ⟨A1, hA1⟩ : ∃ A1, A0 ++ lb = A1 := ⟨_, rfl⟩
                      have s1 : A1.size = A0.size + lb.size := by rw [← hA1, ByteArray.size_append]
                      have f2 : (9223372036854775807 < A1.size + 2) = False := by simp; omega
                      obtain ⟨A2, hA2⟩ : ∃ A2, A1 ++ (⟨#[58, 32]⟩ : ByteArray) = A2 := ⟨_, rfl⟩
                      have s2 : A2.size = A1.size + 2 := by rw [← hA2, ByteArray.size_append]; rfl
                      have f3 : (9223372036854775807 < A2.size + yu.size) = False := by simp; omega
                      obtain ⟨A3, hA3⟩ : ∃ A3, A2 ++ yu = A3 := ⟨_, rfl⟩
                      have hfin : A3.data.toList = 123 :: Lib.join (rowM (ts.take (k + 1))) [44, 32] := by
                        rw [← hA3, app_data, ← hA2, app_data, ← hA1, app_data, ← hA0, app_data, HYL.out, HO.out, HTK.out, join_snoc _ _ _ htne]
                        simp
                      have HFIN := Lib.hid hfin
                      clear s0 s1 s2 hfin htne hkz
                      go_wp2_with fail
                      refine wp_region_held_drew (S := fun wx => Below wr.heap.size wr wx) (by kernel_rfl) hS0 (fun hHeld => ?_)
                      clear hHeld
                      refine wpAnyH_take (i := 0) (v := ?_) rfl (by kernel_rfl) (by kernel_rfl) (by kernel_rfl) (fun _ _ _ h => h) (Or.inl ⟨by rfl, ?_⟩) (by assumption) ?_
                      rotate_left
                      · (intro wq hq; clear hq; go_simp; try with_reducible rfl)
                      simp only [List.getElem_toArray, List.getElem_cons_zero, Act.put, List.setIfInBounds_toArray, List.set_cons_zero, List.set_cons_succ]
                      refine wpAnyH_take (i := 1) (v := ?_) rfl (by kernel_rfl) (by kernel_rfl) (by kernel_rfl) (fun _ _ _ h => h) (Or.inl ⟨by rfl, ?_⟩) (by assumption) ?_
                      rotate_left
                      · (intro wq hq; clear hq; go_simp; try with_reducible rfl)
                      simp only [List.getElem_toArray, List.getElem_cons_succ, List.getElem_cons_zero, Act.put, List.setIfInBounds_toArray, List.set_cons_zero, List.set_cons_succ]
                      refine wpAnyH_take (i := 2) (v := ?_) rfl (by kernel_rfl) (by kernel_rfl) (by kernel_rfl) (fun _ _ _ h => h) (Or.inl ⟨by rfl, ?_⟩) (by assumption) ?_
                      rotate_left
                      · (intro wq hq; clear hq; go_simp; try with_reducible rfl)
                      simp only [List.getElem_toArray, List.getElem_cons_succ, List.getElem_cons_zero, Act.put, List.setIfInBounds_toArray, List.set_cons_zero, List.set_cons_succ]
                      refine wpAnyH_take (i := 3) (v := ?_) rfl (by kernel_rfl) (by kernel_rfl) (by kernel_rfl) (fun _ _ _ h => h) (Or.inl ⟨by rfl, ?_⟩) (by assumption) ?_
                      rotate_left
                      · (intro wq hq; clear hq; go_simp; try with_reducible rfl)
                      simp only [List.getElem_toArray, List.getElem_cons_succ, List.getElem_cons_zero, Act.put, List.setIfInBounds_toArray, List.set_cons_zero, List.set_cons_succ]
                      refine wpAnyH_take (i := 4) (v := ?_) rfl (by kernel_rfl) (by kernel_rfl) (by kernel_rfl) (fun _ _ _ h => h) (Or.inl ⟨by rfl, ?_⟩) (by assumption) ?_
                      rotate_left
                      · (intro wq hq; have hx := HX.out wq hq; clear hq; go_simp; try with_reducible rfl)
                      simp only [List.getElem_toArray, List.getElem_cons_succ, List.getElem_cons_zero, Act.put, List.setIfInBounds_toArray, List.set_cons_zero, List.set_cons_succ]
                      refine wpAnyH_take (i := 5) (v := ?_) rfl (by kernel_rfl) (by kernel_rfl) (by kernel_rfl) (fun _ _ _ h => h) (Or.inl ⟨by rfl, ?_⟩) (by assumption) ?_
                      rotate_left
                      · (intro wq hq; clear hq; go_simp; try with_reducible rfl)
                      simp only [List.getElem_toArray, List.getElem_cons_succ, List.getElem_cons_zero, Act.put, List.setIfInBounds_toArray, List.set_cons_zero, List.set_cons_succ]
                      refine wpAnyH_take (i := 6) (v := ?_) rfl (by kernel_rfl) (by kernel_rfl) (by kernel_rfl) (fun _ _ _ h => h) (Or.inl ⟨by rfl, ?_⟩) (by assumption) ?_
                      rotate_left
                      · (intro wq hq; clear hq; go_simp; try with_reducible rfl)
                      simp only [List.getElem_toArray, List.getElem_cons_succ, List.getElem_cons_zero, Act.put, List.setIfInBounds_toArray, List.set_cons_zero, List.set_cons_succ]
                      refine wpAnyH_take (i := 7) (v := ?_) rfl (by kernel_rfl) (by kernel_rfl) (by kernel_rfl) (fun _ _ _ h => h) (Or.inl ⟨by rfl, ?_⟩) (by assumption) ?_
                      rotate_left
                      · (intro wq hq; have hx := HLB.out wq hq; clear hq; go_simp; try with_reducible rfl)
                      simp only [List.getElem_toArray, List.getElem_cons_succ, List.getElem_cons_zero, Act.put, List.setIfInBounds_toArray, List.set_cons_zero, List.set_cons_succ]
                      refine wpAnyH_take (i := 8) (v := ?_) rfl (by kernel_rfl) (by kernel_rfl) (by kernel_rfl) (fun _ _ _ h => h) (Or.inl ⟨by rfl, ?_⟩) (by assumption) ?_
                      rotate_left
                      · (intro wq hq; clear hq; go_simp; try with_reducible rfl)
                      simp only [List.getElem_toArray, List.getElem_cons_succ, List.getElem_cons_zero, Act.put, List.setIfInBounds_toArray, List.set_cons_zero, List.set_cons_succ]
                      refine wpAnyH_take (i := 9) (v := ?_) rfl (by kernel_rfl) (by kernel_rfl) (by kernel_rfl) (fun _ _ _ h => h) (Or.inl ⟨by rfl, ?_⟩) (by assumption) ?_
                      rotate_left
                      · (intro wq hq; clear hq; go_simp; try with_reducible rfl)
                      simp only [List.getElem_toArray, List.getElem_cons_succ, List.getElem_cons_zero, Act.put, List.setIfInBounds_toArray, List.set_cons_zero, List.set_cons_succ]
                      refine wpAnyH_take (i := 10) (v := ?_) rfl (by kernel_rfl) (by kernel_rfl) (by kernel_rfl) (fun _ _ _ h => h) (Or.inl ⟨by rfl, ?_⟩) (by assumption) ?_
                      rotate_left
                      · (intro wq hq; clear hq; go_simp; try with_reducible rfl)
                      simp only [List.getElem_toArray, List.getElem_cons_succ, List.getElem_cons_zero, Act.put, List.setIfInBounds_toArray, List.set_cons_zero, List.set_cons_succ]
                      refine wpAnyH_take (i := 11) (v := ?_) rfl (by kernel_rfl) (by kernel_rfl) (by kernel_rfl) (fun _ _ _ h => h) (Or.inl ⟨by rfl, ?_⟩) (by assumption) ?_
                      rotate_left
                      · (intro wq hq; clear hq; go_simp; try with_reducible rfl)
                      simp only [List.getElem_toArray, List.getElem_cons_succ, List.getElem_cons_zero, Act.put, List.setIfInBounds_toArray, List.set_cons_zero, List.set_cons_succ]
                      refine wpAnyH_take (i := 12) (v := ?_) rfl (by kernel_rfl) (by kernel_rfl) (by kernel_rfl) (fun _ _ _ h => h) (Or.inl ⟨by rfl, ?_⟩) (by assumption) ?_
                      rotate_left
                      · (intro wq hq; clear hq; go_simp; try with_reducible rfl)
                      simp only [List.getElem_toArray, List.getElem_cons_succ, List.getElem_cons_zero, Act.put, List.setIfInBounds_toArray, List.set_cons_zero, List.set_cons_succ]
                      refine wpAnyH_take (i := 13) (v := ?_) rfl (by kernel_rfl) (by kernel_rfl) (by kernel_rfl) (fun _ _ _ h => h) (Or.inl ⟨by rfl, ?_⟩) (by assumption) ?_
                      rotate_left
                      · (intro wq hq; have hx := HX.out wq hq; clear hq; go_simp; try with_reducible rfl)
                      simp only [List.getElem_toArray, List.getElem_cons_succ, List.getElem_cons_zero, Act.put, List.setIfInBounds_toArray, List.set_cons_zero, List.set_cons_succ]
                      refine wpAnyH_ready (rs := [14]) (by kernel_rfl) (by simp) ?_
                      refine AllReadyH.cons rfl (fun K hK => ?_) AllReadyH.nil
                      go_simp
                      go_at_call 21
                      refine HCALL.out.mono ?_
                      rintro e w5 ⟨rfl, q5'⟩
                      have s5 : Below wr.heap.size wr w5 := hS0.trans (q5'.mono (show wr.heap.size ≤ wr.drew.heap.size from Nat.le_refl _))
                      clear q5'
                      go_wp2_with fail
                      refine hK.out _ _ s5 (fun _ => ?_)
                      clear hK K
                      refine wpAnyH_take (i := 15) (v := ?_) rfl (by kernel_rfl) (by kernel_rfl) (by kernel_rfl) (fun _ _ _ h => h) (Or.inl ⟨by rfl, ?_⟩) (by assumption) ?_
                      rotate_left
                      · (intro wq hq; clear hq; go_simp; try with_reducible rfl)
                      simp only [List.getElem_toArray, List.getElem_cons_succ, List.getElem_cons_zero, Act.put, List.setIfInBounds_toArray, List.set_cons_zero, List.set_cons_succ]
                      refine wpAnyH_take (i := 16) (v := ?_) rfl (by kernel_rfl) (by kernel_rfl) (by kernel_rfl) (fun _ _ _ h => h) (Or.inl ⟨by rfl, ?_⟩) (by assumption) ?_
                      rotate_left
                      · (intro wq hq; clear hq; go_simp; try with_reducible rfl)
                      simp only [List.getElem_toArray, List.getElem_cons_succ, List.getElem_cons_zero, Act.put, List.setIfInBounds_toArray, List.set_cons_zero, List.set_cons_succ]
                      refine wpAnyH_done (by kernel_rfl) ?_ _
                      go_wp2_with fail
                      exact ⟨⟨k + 1, A3, rfl, by simp, by omega, HFIN.out, HBr.out.trans (s5.mono HBr.out.size)⟩, by simp [intOf]; omega⟩
                  · obtain rfl : k = ts.length := by omega
                    have f1 : (9223372036854775807 < O.size + 1) = False := by simp; omega
                    have hfin : (O ++ (⟨#[125]⟩ : ByteArray)).data.toList = showT (.mk n ts) := by
                      rw [app_data, HO.out, List.take_length, HS.out]; rfl
                    have HFIN := Lib.hid hfin
                    clear hfin
                    go_wp2_with fail
                    go_ret
                    exact text_post HFIN.out HXr.out
              · have q4 : (n.k == 4) = false := by rw [beq_eq_false_iff_ne]; exact h4
                have HS := Lib.hid (show showT (.mk n ts) = [60, 102, 117, 110, 62] by rw [showT]; unfold nodeTx; rw [if_neg h0, if_neg h1, if_neg h2, if_neg h3, if_neg h5, if_neg h4])
                clear h0 h1 h2 h3 h5 h4
                go_wp2_with fail
                go_ret
                exact ⟨by rw [HS.out]; rfl, HB2.out⟩
end Shw
end Go.Proofs.YthamcklkmchkiaaDoor
