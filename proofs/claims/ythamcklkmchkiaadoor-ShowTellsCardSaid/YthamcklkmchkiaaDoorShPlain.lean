/-
  DERIVED. LAYER 21 (show): PLAIN FACTS OF FIGURES: a number's figures are figures, tell the number, and the first of one from 1 on is none of 0.
-/
import Derived.Test.YthamcklkmchkiaaDoorShFig
namespace Go.Proofs.YthamcklkmchkiaaDoor
open Go.RowKit
namespace Shw

theorem toNat_fig {d : Nat} (h : d < 10) : (UInt8.ofNat (48 + d)).toNat = 48 + d := by
  rw [UInt8.toNat_ofNat']; omega
theorem dec_fig (u : Nat) : ∀ c ∈ Lib.decDigits u, 48 ≤ c.toNat ∧ c.toNat ≤ 57 := by
  induction u using Nat.strongRecOn with
  | ind u ih =>
    intro c hc
    by_cases h : u < 10
    · rw [dig_small h, List.mem_singleton] at hc
      subst hc
      rw [toNat_fig h]; omega
    · rw [dig_big h, List.mem_append, List.mem_singleton] at hc
      rcases hc with hc | rfl
      · exact ih (u / 10) (by omega) c hc
      · rw [toNat_fig (Nat.mod_lt _ (by omega))]; have := Nat.mod_lt u (show 0 < 10 by omega); omega
theorem dec_ne (u : Nat) : Lib.decDigits u ≠ [] := by
  by_cases h : u < 10
  · rw [dig_small h]; simp
  · rw [dig_big h]; simp
/-- The number that figures tell. -/
def val (l : List UInt8) : Nat := l.foldl (fun a c => a * 10 + (c.toNat - 48)) 0
theorem val_app (l : List UInt8) (c : UInt8) : val (l ++ [c]) = val l * 10 + (c.toNat - 48) := by
  unfold val; rw [List.foldl_append]; rfl
theorem val_dec (u : Nat) : val (Lib.decDigits u) = u := by
  induction u using Nat.strongRecOn with
  | ind u ih =>
    by_cases h : u < 10
    · rw [dig_small h]
      show 0 * 10 + ((UInt8.ofNat (48 + u)).toNat - 48) = u
      rw [toNat_fig h]; omega
    · rw [dig_big h, val_app, ih (u / 10) (by omega), toNat_fig (Nat.mod_lt _ (by omega))]; omega
theorem dec_inj {a b : Nat} (h : Lib.decDigits a = Lib.decDigits b) : a = b := by
  have := congrArg val h
  rwa [val_dec, val_dec] at this
theorem dec_head (u : Nat) (h1 : 1 ≤ u) : ∃ c r, Lib.decDigits u = c :: r ∧ 49 ≤ c.toNat ∧ c.toNat ≤ 57 := by
  induction u using Nat.strongRecOn with
  | ind u ih =>
    by_cases h : u < 10
    · exact ⟨_, [], dig_small h, by rw [toNat_fig h]; omega, by rw [toNat_fig h]; omega⟩
    · obtain ⟨c, r, hc, h2⟩ := ih (u / 10) (by omega) (by omega)
      exact ⟨c, r ++ [UInt8.ofNat (48 + u % 10)], by rw [dig_big h, hc]; rfl, h2⟩
theorem itoa_inj {a b : Int} (h : Lib.itoa a = Lib.itoa b) : a = b := by
  rw [itoa_eq, itoa_eq] at h
  have key : ∀ u v : Nat, ¬ (45 :: Lib.decDigits u = Lib.decDigits v) := fun u v h => by
    have := dec_fig v 45 (by rw [← h]; simp)
    exact absurd this.1 (by decide)
  by_cases ha : a < 0
  · rw [if_pos ha] at h
    by_cases hb : b < 0
    · rw [if_pos hb] at h
      have := dec_inj (List.append_cancel_left h)
      omega
    · rw [if_neg hb] at h
      exact absurd h (key _ _)
  · rw [if_neg ha] at h
    by_cases hb : b < 0
    · rw [if_pos hb] at h
      exact absurd h.symm (key _ _)
    · rw [if_neg hb] at h
      have := dec_inj (List.append_cancel_left h)
      omega
theorem itoa_ne (n : Int) : Lib.itoa n ≠ [] := by
  rw [itoa_eq]
  intro h
  exact dec_ne _ (List.append_eq_nil_iff.1 h).2
/-- Byte i of a number's text: a figure; or it is the first, a '-', of one below 0. -/
theorem itoa_at (n : Int) (i : Nat) (c : UInt8) (h : (Lib.itoa n)[i]? = some c) : (48 ≤ c.toNat ∧ c.toNat ≤ 57) ∨ (i = 0 ∧ c = 45 ∧ n < 0) := by
  rw [itoa_eq] at h
  by_cases hn : n < 0
  · rw [if_pos hn] at h
    cases i with
    | zero =>
      simp only [List.cons_append, List.getElem?_cons_zero, Option.some.injEq] at h
      exact .inr ⟨rfl, h.symm, hn⟩
    | succ i =>
      simp only [List.cons_append, List.nil_append, List.getElem?_cons_succ] at h
      exact .inl (dec_fig _ c (List.mem_of_getElem? h))
  · rw [if_neg hn] at h
    exact .inl (dec_fig _ c (List.mem_of_getElem? h))
end Shw
end Go.Proofs.YthamcklkmchkiaaDoor
