/-
  DERIVED. ROWS OF ROWS IN MEMORY that a call makes, one block a row; nodes' cells as lists. (Words for the references' Kids, Part, Plain.)
-/
import Derived.Test.YthamcklkmchkiaaDoorShRef19
import Derived.Test.YthamcklkmchkiaaDoorShValue
import Derived.Deep.AppendLies
import Derived.Laws.OwnMore
namespace Go.Proofs.YthamcklkmchkiaaDoor
open Go.RowKit
namespace Shw
open Gl Glw Sh

/-- From address (b, off) on lie these cells. -/
def Cells (w : World) (b off : Nat) (l : List Go.Value) : Prop := ∀ (j : Nat) (u : Go.Value), l[j]? = some u → w.cell? ⟨b, off + j, none⟩ = some u
theorem Cells.of_block {w w' : World} {b off : Nat} {l : List Go.Value} (h : Cells w b off l) (hb : w'.heap[b]? = w.heap[b]?) : Cells w' b off l :=
  fun j u hj => (World.cell?_of_block (a := ⟨b, off + j, none⟩) hb).trans (h j u hj)
theorem Cells.add {w : World} {b off : Nat} {l : List Go.Value} (h : Cells w b off l) : ∀ (j : Nat) (u : Go.Value), l[j]? = some u → w.cell? ((⟨b, off, none⟩ : Addr).add j) = some u := fun j u hj => by
  have := h j u hj
  rw [show ((⟨b, off, none⟩ : Addr).add j) = ⟨b, off + j, none⟩ from by unfold Addr.add; split <;> simp_all]
  exact this

/-- A slice of slices of the call's own: its rows lie each in a block of its own. -/
def RowsOf (w : World) (base e t size : Nat) (v : Go.Value) (xss : List (List Go.Value)) : Prop :=
  ∃ xs, w.ownsRow base e 1 v xss.length xs ∧ ∀ (i : Nat) (l : List Go.Value), xss[i]? = some l → ∃ g n cap, xs[i]? = some (.slice (some ⟨g, 0, none⟩) n cap) ∧ l.length = n * size ∧ n ≤ cap ∧ base ≤ g ∧ g < w.heap.size ∧ v.ownBlock ≠ some g ∧ (∃ cs fr, w.heap[g]? = some (.cells cs t fr)) ∧ Cells w g 0 l

theorem own_lt {w : World} {base e size n : Nat} {v : Go.Value} {xs : List Go.Value} (h : w.ownsRow base e size v n xs) {k : Nat} (hk : v.ownBlock = some k) : base ≤ k ∧ k < w.heap.size := by
  rcases h.2 with ⟨rfl, _⟩ | ⟨g, cap, cur, rfl, hb, hg, _⟩
  · simp [Value.ownBlock] at hk
  · have : g = k := by simpa [Value.ownBlock] using hk
    subst this
    refine ⟨hb, ?_⟩
    rcases Nat.lt_or_ge g w.heap.size with h' | h'
    · exact h'
    · rw [Array.getElem?_eq_none h'] at hg; cases hg
theorem own_keep {w w' : World} {base e size n : Nat} {v : Go.Value} {xs : List Go.Value} (h : w.ownsRow base e size v n xs) (hb : ∀ k, v.ownBlock = some k → w'.heap[k]? = w.heap[k]?) : w'.ownsRow base e size v n xs := by
  refine ⟨h.1, ?_⟩
  rcases h.2 with h0 | ⟨g, cap, cur, rfl, hb1, hg, h3⟩
  · exact .inl h0
  · exact .inr ⟨g, cap, cur, rfl, hb1, (hb g (by simp [Value.ownBlock])).trans hg, h3⟩
theorem RowsOf.below {w w' : World} {base e t size : Nat} {v : Go.Value} {xss : List (List Go.Value)} (h : RowsOf w base e t size v xss) (hb : Below w.heap.size w w') : RowsOf w' base e t size v xss := by
  obtain ⟨xs, h1, h2⟩ := h
  refine ⟨xs, own_keep h1 fun k hk => hb.block k (own_lt h1 hk).2, fun i l hl => ?_⟩
  obtain ⟨g, n, cap, hx, hn, hc, hg, hlt, hne, ⟨cs, fr, ht⟩, hcell⟩ := h2 i l hl
  exact ⟨g, n, cap, hx, hn, hc, hg, Nat.lt_of_lt_of_le hlt hb.size, hne, ⟨cs, fr, (hb.block g hlt).trans ht⟩, hcell.of_block (hb.block g hlt)⟩
theorem RowsOf.nil (w : World) (base e t size : Nat) : RowsOf w base e t size (.slice none 0 0) [] := ⟨[], ⟨rfl, .inl ⟨rfl, rfl⟩⟩, fun i l h => by simp at h⟩
theorem RowsOf.empty (w : World) (base e t size : Nat) (h : base ≤ w.heap.size) : RowsOf (w.alloc (.cells #[] e)) base e t size (.slice (some ⟨w.heap.size, 0, none⟩) 0 0) [] :=
  ⟨[], World.ownsRow_lit w #[] 0 h (Nat.zero_le _) rfl, fun i l h => by simp at h⟩
/-- One row more: a row of the call's own, appended. -/
theorem RowsOf.push {w0 w1 w2 : World} {base e t size n : Nat} {v v2 : Go.Value} {xss : List (List Go.Value)} {xs : List Go.Value} {l : List Go.Value} {g cap : Nat}
    (h : RowsOf w0 base e t size v xss) (hxs : w0.ownsRow base e 1 v xss.length xs) (hb : Below w0.heap.size w0 w1) (hg0 : w0.heap.size ≤ g) (hg1 : g < w1.heap.size) (hl : l.length = n * size) (hc : n ≤ cap) (ht : ∃ cs fr, w1.heap[g]? = some (.cells cs t fr)) (hcell : Cells w1 g 0 l)
    (hown : w2.ownsRow base e 1 v2 (xss.length + 1) (xs ++ [.slice (some ⟨g, 0, none⟩) n cap])) (hgr : w1.grownBy w2 v.ownBlock) (hat : v2.ownBlock = v.ownBlock ∨ v2.ownBlock = some w1.heap.size) (hbase : base ≤ w0.heap.size) :
    RowsOf w2 base e t size v2 (xss ++ [l]) := by
  obtain ⟨xs', h1, h2⟩ := h
  have hx : xs' = xs := by
    have e1 := h1.2
    have e2 := hxs.2
    rcases e1 with ⟨rfl, e1⟩ | ⟨g1, c1, cur1, rfl, _, e3, _, _, _, e4⟩
    · have a1 := h1.1
      have a2 := hxs.1
      rw [e1] at a1 a2
      exact (List.eq_nil_of_length_eq_zero (by simpa using a1)).trans (List.eq_nil_of_length_eq_zero (by simpa using a2)).symm
    · rcases e2 with ⟨e2, _⟩ | ⟨g2, c2, cur2, e2, _, f3, _, _, _, f4⟩
      · simp at e2
      · simp only [Value.slice.injEq, Option.some.injEq, Addr.mk.injEq, and_true, true_and] at e2
        obtain ⟨rfl, rfl⟩ := e2
        rw [e3] at f3
        injection f3 with f3
        injection f3 with f3
        subst f3
        rw [← e4, ← f4]
  subst hx
  have hvb : ∀ k, v.ownBlock = some k → k < w0.heap.size := fun k hk => (own_lt h1 hk).2
  refine ⟨_, by rw [List.length_append]; exact hown, fun i u hu => ?_⟩
  have hs1 := hb.size
  have hs2 := hgr.size
  rcases Nat.lt_or_ge i xss.length with hi | hi
  · rw [List.getElem?_append_left hi] at hu
    obtain ⟨g', n', cap', hx', hn', hc', hg', hlt, hne, ⟨cs, fr, ht'⟩, hcell'⟩ := h2 i u hu
    refine ⟨g', n', cap', ?_, hn', hc', hg', by omega, ?_, ⟨cs, fr, ((hgr.block g' (by omega) (fun e' => hne e'.symm)).trans (hb.block g' hlt)).trans ht'⟩, ?_⟩
    · rw [List.getElem?_append_left (by rw [h1.1]; omega)]; exact hx'
    · rcases hat with e | e <;> rw [e]
      · exact hne
      · intro e'
        injection e' with e'
        omega
    · exact (hcell'.of_block (hb.block g' hlt)).of_block (hgr.block g' (by omega) (fun e' => hne e'.symm))
  · have hi0 : i = xss.length := by
      rcases Nat.lt_or_ge i (xss ++ [l]).length with h' | h'
      · rw [List.length_append, List.length_singleton] at h'; omega
      · rw [List.getElem?_eq_none h'] at hu; cases hu
    subst hi0
    rw [List.getElem?_append_right (Nat.le_refl _), Nat.sub_self] at hu
    obtain rfl : l = u := by simpa using hu
    obtain ⟨cs, fr, ht⟩ := ht
    have hgn : some g ≠ v.ownBlock := fun e' => by have := hvb _ e'.symm; omega
    refine ⟨g, n, cap, ?_, hl, hc, by omega, by omega, ?_, ⟨cs, fr, (hgr.block g hg1 hgn).trans ht⟩, ?_⟩
    · rw [List.getElem?_append_right (by rw [h1.1]; omega), h1.1]
      simp
    · rcases hat with e | e <;> rw [e]
      · intro e'; have := hvb _ e'; omega
      · intro e'
        injection e' with e'
        omega
    · exact hcell.of_block (hgr.block g hg1 hgn)
/-- Another row of the call's own grew, of another kind of elements: the rows are as they were. -/
theorem RowsOf.apart {w w' : World} {base e t size base' e' size' n' : Nat} {v v' : Go.Value} {xss : List (List Go.Value)} {xs' : List Go.Value} (h : RowsOf w base e t size v xss) (h' : w.ownsRow base' e' size' v' n' xs')
    (hg : w.grownBy w' v'.ownBlock) (he : e' ≠ e) (ht : e' ≠ t) : RowsOf w' base e t size v xss := by
  have hty : ∀ k, v'.ownBlock = some k → ∃ cs, w.heap[k]? = some (.cells cs e' (0, 0)) := by
    intro k hk
    rcases h'.2 with ⟨rfl, _⟩ | ⟨g, cap, cur, rfl, _, hh, _⟩
    · simp [Value.ownBlock] at hk
    · have : g = k := by simpa [Value.ownBlock] using hk
      subst this
      exact ⟨cur, hh⟩
  have hfar : ∀ k cs fr u, w.heap[k]? = some (.cells cs u fr) → e' ≠ u → some k ≠ v'.ownBlock := by
    intro k cs fr u hk hu hv
    obtain ⟨cs', hc⟩ := hty k hv.symm
    rw [hk] at hc
    injection hc with hc
    injection hc with _ hc
    exact hu hc.symm
  obtain ⟨xs, h1, h2⟩ := h
  refine ⟨xs, own_keep h1 fun k hk => ?_, fun i l hl => ?_⟩
  · rcases h1.2 with ⟨rfl, _⟩ | ⟨g, cap, cur, rfl, _, hh, _⟩
    · simp [Value.ownBlock] at hk
    · have : g = k := by simpa [Value.ownBlock] using hk
      subst this
      exact hg.block g (own_lt h1 hk).2 (hfar g _ _ _ hh he)
  · obtain ⟨g, n, cap, hx, hn, hc, hgb, hlt, hne, ⟨cs, fr, hcs⟩, hcell⟩ := h2 i l hl
    have hb := hg.block g hlt (hfar g _ _ _ hcs ht)
    exact ⟨g, n, cap, hx, hn, hc, hgb, Nat.lt_of_lt_of_le hlt hg.size, hne, ⟨cs, fr, hb.trans hcs⟩, hcell.of_block hb⟩
theorem own_apart {w w' : World} {base e size n base' e' size' n' : Nat} {v v' : Go.Value} {xs xs' : List Go.Value} (h : w.ownsRow base e size v n xs) (h' : w.ownsRow base' e' size' v' n' xs') (hg : w.grownBy w' v'.ownBlock) (he : e' ≠ e) : w'.ownsRow base e size v n xs := by
  refine own_keep h fun k hk => ?_
  rcases h.2 with ⟨rfl, _⟩ | ⟨g, cap, cur, rfl, _, hh, _⟩
  · simp [Value.ownBlock] at hk
  · have hgk : g = k := by simpa [Value.ownBlock] using hk
    subst hgk
    refine hg.block g (own_lt h hk).2 (fun hv => ?_)
    rcases h'.2 with ⟨rfl, _⟩ | ⟨g', cap', cur', rfl, _, hh', _⟩
    · simp [Value.ownBlock] at hv
    · have : g = g' := by simpa [Value.ownBlock] using hv
      subst this
      rw [hh] at hh'
      injection hh' with hh'
      injection hh' with _ hh'
      exact he hh'.symm
/-- A row of the rows, read. -/
theorem RowsOf.row {w : World} {base e t size : Nat} {v : Go.Value} {xss : List (List Go.Value)} (h : RowsOf w base e t size v xss) {i : Nat} {l : List Go.Value} (hl : xss[i]? = some l) :
    ∃ b cap0 g n cap, v = .slice (some ⟨b, 0, none⟩) xss.length cap0 ∧ xss.length ≤ cap0 ∧ base ≤ b ∧ b < w.heap.size ∧ w.cell? ⟨b, i, none⟩ = some (.slice (some ⟨g, 0, none⟩) n cap) ∧ l.length = n * size ∧ n ≤ cap ∧ base ≤ g ∧ g < w.heap.size ∧ Cells w g 0 l := by
  obtain ⟨xs, h1, h2⟩ := h
  have hi : i < xss.length := by
    rcases Nat.lt_or_ge i xss.length with h' | h'
    · exact h'
    · rw [List.getElem?_eq_none h'] at hl; cases hl
  obtain ⟨g, n, cap, hx, hn, hc, hg, hlt, _, _, hcell⟩ := h2 i l hl
  rcases h1.2 with ⟨_, h0⟩ | ⟨b, cap0, cur, hv, hb, hh, hcap, hm, hs, ht⟩
  · omega
  · refine ⟨b, cap0, g, n, cap, hv, hcap, hb, ?_, ?_, hn, hc, hg, hlt, hcell⟩
    · rcases Nat.lt_or_ge b w.heap.size with h' | h'
      · exact h'
      · rw [Array.getElem?_eq_none h'] at hh; cases hh
    · subst hv
      rw [h1.cellAt i (by omega)]
      exact hx

theorem vnsC_len : ∀ l : List VN, (vnsC l).length = l.length * 7
  | [] => rfl
  | n :: l => by rw [vnsC, List.length_append, vnsC_len l, List.length_cons]; simp only [vnC, List.length_cons, List.length_nil]; omega
theorem vnsC_app : ∀ a b : List VN, vnsC (a ++ b) = vnsC a ++ vnsC b
  | [], b => rfl
  | n :: a, b => by rw [List.cons_append, vnsC, vnsC, vnsC_app a b, List.append_assoc]
theorem vnsC_split : ∀ (l : List VN) (j : Nat) (u : Go.Value), (vnsC l)[j]? = some u → ∃ i n r, j = i * 7 + r ∧ r < 7 ∧ l[i]? = some n ∧ (vnC n)[r]? = some u
  | [], j, u, h => by simp [vnsC] at h
  | n :: l, j, u, h => by
    rw [vnsC] at h
    rcases Nat.lt_or_ge j 7 with hj | hj
    · rw [List.getElem?_append_left (by simpa [vnC] using hj)] at h
      exact ⟨0, n, j, by omega, hj, rfl, h⟩
    · rw [List.getElem?_append_right (by simpa [vnC] using hj)] at h
      obtain ⟨i, m, r, e, hr, hm, hu⟩ := vnsC_split l _ u h
      have : (vnC n).length = 7 := rfl
      rw [this] at e
      exact ⟨i + 1, m, r, by omega, hr, by simpa using hm, hu⟩
theorem vnsC_one (l : List VN) : ∀ u ∈ vnsC l, u.oneCell' = true := by
  intro u hu
  obtain ⟨j, hj, rfl⟩ := List.getElem_of_mem hu
  obtain ⟨i, n, r, _, hr, _, hu'⟩ := vnsC_split l j _ (List.getElem?_eq_getElem hj)
  match r, hr, hu' with
  | 0, _, h => rw [← Option.some.inj h]; rfl
  | 1, _, h => rw [← Option.some.inj h]; rfl
  | 2, _, h => rw [← Option.some.inj h]; rfl
  | 3, _, h => rw [← Option.some.inj h]; rfl
  | 4, _, h => rw [← Option.some.inj h]; rfl
  | 5, _, h => rw [← Option.some.inj h]; rfl
  | 6, _, h => rw [← Option.some.inj h]; rfl
theorem RdV.cells {w : World} {b off : Nat} {L : List VN} (h : RdV w b off L) : Cells w b off (vnsC L) := by
  intro j u hj
  obtain ⟨i, n, r, rfl, hr, hn, hu⟩ := vnsC_split L j u hj
  obtain ⟨a0, a1, a2, a3, a4, a5, a6⟩ := h.2 i n hn
  match r, hr, hu with
  | 0, _, h => rw [← Option.some.inj h]; exact a0
  | 1, _, h => rw [← Option.some.inj h]; exact a1
  | 2, _, h => rw [← Option.some.inj h]; exact a2
  | 3, _, h => rw [← Option.some.inj h]; exact a3
  | 4, _, h => rw [← Option.some.inj h]; exact a4
  | 5, _, h => rw [← Option.some.inj h]; exact a5
  | 6, _, h => rw [← Option.some.inj h]; exact a6
theorem RdV.of_cells {w : World} {b off : Nat} {L : List VN} (hb : b < w.heap.size) (h : Cells w b off (vnsC L)) : RdV w b off L := by
  refine ⟨hb, fun i n hn => ?_⟩
  have hc : ∀ j, j < 7 → w.cell? ⟨b, off + i * 7 + j, none⟩ = (vnC n)[j]? := fun j hj => by
    have e := vnsC_at L i n j hn hj
    have hl : j < (vnC n).length := hj
    rw [List.getElem?_eq_getElem hl] at e ⊢
    have := h _ _ e
    rw [← Nat.add_assoc] at this
    exact this
  exact ⟨hc 0 (by omega), hc 1 (by omega), hc 2 (by omega), hc 3 (by omega), hc 4 (by omega), hc 5 (by omega), hc 6 (by omega)⟩
theorem RdV.sub {w : World} {b off : Nat} {L : List VN} (h : RdV w b off L) (k m : Nat) : RdV w b (off + k * 7) ((L.drop k).take m) := by
  refine ⟨h.1, fun i n hn => ?_⟩
  have e : L[k + i]? = some n := by
    rw [List.getElem?_take] at hn
    split at hn
    · rw [List.getElem?_drop] at hn; exact hn
    · cases hn
  have := h.2 (k + i) n e
  rw [show off + (k + i) * 7 = off + k * 7 + i * 7 by omega] at this
  exact this
end Shw
end Go.Proofs.YthamcklkmchkiaaDoor
