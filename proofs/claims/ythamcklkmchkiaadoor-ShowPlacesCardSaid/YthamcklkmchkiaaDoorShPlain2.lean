/-
  DERIVED. LAYER 21 (show): PLAIN FACTS OF A PLACE's TEXT: what stands between a module's name and an error's.
-/
import Derived.Test.YthamcklkmchkiaaDoorShPlain
import Derived.Test.YthamcklkmchkiaaDoorShWrong
namespace Go.Proofs.YthamcklkmchkiaaDoor
open Go.RowKit
namespace Shw
open Gl Glw Sh

/-- Between the module and the error: two numbers, a colon ahead of each. -/
def midL (L C : Int) : List UInt8 := 58 :: (Lib.itoa L ++ 58 :: Lib.itoa C)
theorem wrong_mid (m t : List UInt8) (a e : Int) : wrongL m t a e = m ++ (midL (placeL t a).1 (placeL t a).2 ++ (58 :: 32 :: errL e)) := by
  unfold wrongL midL
  simp
theorem itoa_pos {n : Int} (h : 1 ≤ n) : ∃ c r, Lib.itoa n = c :: r ∧ 49 ≤ c.toNat ∧ c.toNat ≤ 57 := by
  obtain ⟨c, r, h1, h2⟩ := dec_head n.natAbs (by omega)
  exact ⟨c, r, by rw [itoa_eq, if_neg (by omega), h1]; rfl, h2⟩
theorem itoa_figs {n : Int} (h : 1 ≤ n) : ∀ c ∈ Lib.itoa n, 48 ≤ c.toNat ∧ c.toNat ≤ 57 := by
  rw [itoa_eq, if_neg (by omega)]
  exact dec_fig _
theorem mid_at (L C : Int) (hL : 1 ≤ L) (hC : 1 ≤ C) (k : Nat) (hk : k < (midL L C).length) :
    ∃ c, (midL L C)[k]? = some c ∧ ((c = 58 ∧ ∃ d, (midL L C)[k + 1]? = some d ∧ 49 ≤ d.toNat ∧ d.toNat ≤ 57) ∨ (48 ≤ c.toNat ∧ c.toNat ≤ 57)) := by
  obtain ⟨c1, r1, e1, h1⟩ := itoa_pos hL
  obtain ⟨c2, r2, e2, h2⟩ := itoa_pos hC
  have f1 := itoa_figs hL
  have f2 := itoa_figs hC
  unfold midL at hk ⊢
  cases k with
  | zero => exact ⟨58, rfl, .inl ⟨rfl, c1, by rw [e1]; rfl, h1⟩⟩
  | succ j =>
    simp only [List.getElem?_cons_succ]
    rcases Nat.lt_or_ge j (Lib.itoa L).length with hj | hj
    · refine ⟨(Lib.itoa L)[j], ?_, .inr (f1 _ (List.getElem_mem hj))⟩
      rw [List.getElem?_append_left hj, List.getElem?_eq_getElem hj]
    · rw [List.getElem?_append_right hj, List.getElem?_append_right (by omega)]
      obtain ⟨i, hi⟩ : ∃ i, j = (Lib.itoa L).length + i := ⟨j - (Lib.itoa L).length, by omega⟩
      subst hi
      rw [show (Lib.itoa L).length + i - (Lib.itoa L).length = i by omega, show (Lib.itoa L).length + i + 1 - (Lib.itoa L).length = i + 1 by omega]
      cases i with
      | zero => exact ⟨58, rfl, .inl ⟨rfl, c2, by rw [e2]; rfl, h2⟩⟩
      | succ i =>
        simp only [List.getElem?_cons_succ]
        have hi : i < (Lib.itoa C).length := by
          simp only [List.length_cons, List.length_append] at hk
          omega
        exact ⟨(Lib.itoa C)[i], List.getElem?_eq_getElem hi, .inr (f2 _ (List.getElem_mem hi))⟩
theorem count_figs : ∀ l : List UInt8, (∀ c ∈ l, 48 ≤ c.toNat ∧ c.toNat ≤ 57) → l.count 58 = 0 := fun l h => by
  rw [List.count_eq_zero]
  intro hc
  have := (h 58 hc).2
  exact absurd this (by decide)
theorem mid_count (L C : Int) (hL : 1 ≤ L) (hC : 1 ≤ C) : (midL L C).count 58 = 2 := by
  unfold midL
  rw [List.count_cons_self, List.count_append, List.count_cons_self, count_figs _ (itoa_figs hL), count_figs _ (itoa_figs hC)]
theorem mid_len (L C : Int) (hL : 1 ≤ L) (hC : 1 ≤ C) : 4 ≤ (midL L C).length := by
  obtain ⟨c1, r1, e1, _⟩ := itoa_pos hL
  obtain ⟨c2, r2, e2, _⟩ := itoa_pos hC
  unfold midL
  rw [e1, e2]
  simp only [List.length_cons, List.length_append]
  omega
theorem mid_le (L C : Int) (hL : 1 ≤ L) (hL' : L ≤ 1000001) (hC : 1 ≤ C) (hC' : C ≤ 1000001) : (midL L C).length ≤ 44 := by
  have h1 := itoa_len L (by omega) (by omega)
  have h2 := itoa_len C (by omega) (by omega)
  unfold midL
  simp only [List.length_cons, List.length_append]
  omega
end Shw
end Go.Proofs.YthamcklkmchkiaaDoor
