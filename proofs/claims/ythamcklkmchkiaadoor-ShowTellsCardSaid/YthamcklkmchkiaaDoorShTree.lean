/-
  DERIVED. LAYER 19 (value), as the reference has it: a value as a tree, plain: ends, children, what is right; and a right value's text.
-/
import Derived.Test.YthamcklkmchkiaaDoorShVal
namespace Go.Proofs.YthamcklkmchkiaaDoor
open Go.RowKit
namespace Sh
open Gl

/-- How many children a node has. -/
def manyV (n : VN) : Int := if n.k = 4 then max n.many 0 else if n.k = 5 then 1 else if n.k = 7 then 1 else 0
/-- So many trees are open behind a node. -/
def stepO (o : Int) (n : VN) : Int := wrap64 (wrap64 (o - 1) + manyV n)
/-- How many nodes are gone over till all trees are shut. -/
def endGo : Int → List VN → Nat
  | _, [] => 0
  | o, n :: r => if stepO o n = 0 then 1 else 1 + endGo (stepO o n) r
def endV (l : List VN) : Nat := endGo 1 l
/-- So many rows, one behind the other. -/
def kidsGo : Nat → List VN → List (List VN)
  | 0, _ => []
  | _ + 1, [] => []
  | c + 1, n :: r => (n :: r).take (endV (n :: r)) :: kidsGo c ((n :: r).drop (endV (n :: r)))
def kidsV : List VN → List (List VN)
  | [] => []
  | n :: r => kidsGo (manyV n).toNat r

/-- A node uses what its kind uses. -/
def UsesP (n : VN) : Prop := (n.k = 7 ∨ (n.tn = 0 ∧ n.un = 0)) ∧ ((n.k = 0 ∧ n.nm.size = 0 ∧ n.many = 0) ∨ (n.k = 1 ∧ n.nm.size = 0 ∧ n.many = 0 ∧ (n.num = 0 ∨ n.num = 1)) ∨ (n.k = 2 ∧ n.num = 0 ∧ n.many = 0) ∨
  (n.k = 3 ∧ n.nm.size = 0 ∧ n.num = 0 ∧ n.many = 0) ∨ (n.k = 4 ∧ n.nm.size = 0 ∧ n.num = 0 ∧ 0 ≤ n.many ∧ n.many ≤ 50) ∨ (n.k = 5 ∧ tagL n.nm.data.toList = true ∧ n.num = 0 ∧ n.many = 0) ∨
  (n.k = 6 ∧ n.nm.size = 0 ∧ 0 ≤ n.num ∧ n.many = 0) ∨ (n.k = 7 ∧ n.nm.size = 0 ∧ 0 ≤ n.num ∧ n.many = 0))
theorem UsesP.many {n : VN} (h : UsesP n) : 0 ≤ manyV n ∧ manyV n ≤ 50 := by
  unfold manyV
  have := h.2
  by_cases h4 : n.k = 4
  · rw [if_pos h4]; omega
  · rw [if_neg h4]
    split
    · omega
    · split <;> omega
/-- What a child of a node may be. -/
def kidP (n x : VN) : Prop := (n.k = 4 → wordL x.lab.data.toList = true) ∧ (n.k ≠ 4 → x.lab.size = 0) ∧ (n.k = 7 → x.k = 6 ∨ x.k = 7)
/-- What the reference's tree says. -/
inductive TreeI : List VN → Prop
  | mk (n : VN) (r : List VN) (hu : UsesP n) (he : endV (n :: r) = (n :: r).length) (hk : (kidsV (n :: r)).length = (manyV n).toNat)
    (hp : ∀ l ∈ kidsV (n :: r), ∀ x s, l = x :: s → kidP n x) (ht : ∀ l ∈ kidsV (n :: r), TreeI l) : TreeI (n :: r)

/-- A value as a tree. -/
inductive VT where
  | mk (n : VN) (ts : List VT)
def rootT : VT → VN
  | .mk n _ => n
def subT : VT → List VT
  | .mk _ ts => ts
mutual
def flatT : VT → List VN
  | .mk n ts => n :: flatTs ts
def flatTs : List VT → List VN
  | [] => []
  | t :: ts => flatT t ++ flatTs ts
end
mutual
def okT : VT → Prop
  | .mk n ts => UsesP n ∧ (ts.length : Int) = manyV n ∧ (∀ t ∈ ts, kidP n (rootT t)) ∧ okTs ts
def okTs : List VT → Prop
  | [] => True
  | t :: ts => okT t ∧ okTs ts
end
theorem okTs_mem : ∀ {ts : List VT}, okTs ts → ∀ t ∈ ts, okT t
  | [], _, t, h => by simp at h
  | u :: ts, h, t, ht => by
    rw [okTs] at h
    rcases List.mem_cons.1 ht with rfl | ht
    · exact h.1
    · exact okTs_mem h.2 t ht
theorem okTs_of : ∀ {ts : List VT}, (∀ t ∈ ts, okT t) → okTs ts
  | [], _ => by rw [okTs]; trivial
  | u :: ts, h => by rw [okTs]; exact ⟨h u (by simp), okTs_of fun t ht => h t (by simp [ht])⟩
theorem flatT_eq : ∀ t : VT, flatT t = rootT t :: flatTs (subT t)
  | .mk n ts => by rw [flatT]; rfl
theorem flatTs_join : ∀ ts : List VT, flatTs ts = (ts.map flatT).flatten
  | [] => by rw [flatTs]; rfl
  | t :: ts => by rw [flatTs, flatTs_join ts]; rfl

/-- A count that fits. -/
def Few (o : Int) (l : List VN) : Prop := 0 < o ∧ o + 100 * (l.length : Int) ≤ 1000000000000
theorem wrap_in {a : Int} (h0 : -9223372036854775808 ≤ a) (h1 : a ≤ 9223372036854775807) : wrap64 a = a := IntWalk.wrap64_in a ⟨h0, h1⟩
theorem stepO_in (o : Int) (n : VN) (h0 : 0 < o) (h1 : o ≤ 1000000000000) (hu : UsesP n) : stepO o n = o - 1 + manyV n := by
  have := hu.many
  unfold stepO
  rw [wrap_in (a := o - 1) (by omega) (by omega), wrap_in (by omega) (by omega)]

mutual
theorem endGo_T : ∀ (t : VT) (o : Int) (rest : List VN), okT t → Few o (flatT t) → endGo o (flatT t ++ rest) = (flatT t).length + (if o = 1 then 0 else endGo (o - 1) rest)
  | .mk n ts, o, rest, hok, hf => by
    rw [okT] at hok
    rw [flatT] at hf ⊢
    obtain ⟨f0, f1⟩ := hf
    rw [List.length_cons] at f1
    have hm := hok.1.many
    have hs := stepO_in o n f0 (by omega) hok.1
    rw [List.cons_append, endGo, hs, List.length_cons]
    by_cases hz : o - 1 + manyV n = 0
    · rw [if_pos hz, if_pos (by omega)]
      have : ts = [] := List.eq_nil_of_length_eq_zero (by omega)
      subst this
      rw [flatTs]; rfl
    · rw [if_neg hz]
      have h := endGo_Ts ts (o - 1) rest hok.2.2.2 (by omega) (by omega) (by push_cast at f1; omega)
      rw [hok.2.1] at h
      rw [h]
      by_cases h1 : o = 1
      · rw [if_pos h1, if_pos (by omega)]; omega
      · rw [if_neg h1, if_neg (by omega)]; omega
theorem endGo_Ts : ∀ (ts : List VT) (p : Int) (rest : List VN), okTs ts → 0 ≤ p → p + ts.length ≠ 0 → p + ts.length + 100 * ((flatTs ts).length : Int) ≤ 1000000000000 →
    endGo (p + ts.length) (flatTs ts ++ rest) = (flatTs ts).length + (if p = 0 then 0 else endGo p rest)
  | [], p, rest, _, _, hne, _ => by
    rw [flatTs] at *
    simp only [List.length_nil, List.nil_append, Nat.zero_add] at hne ⊢
    rw [if_neg (by omega)]
    congr 1
    omega
  | t :: ts, p, rest, hok, hp, _, hf => by
    rw [okTs] at hok
    rw [flatTs] at hf ⊢
    rw [List.length_append] at hf ⊢
    rw [List.length_cons] at hf ⊢
    rw [List.append_assoc, endGo_T t _ _ hok.1 ⟨by push_cast; omega, by push_cast at hf ⊢; omega⟩]
    by_cases hz : p + ts.length = 0
    · have : ts = [] := List.eq_nil_of_length_eq_zero (by omega)
      subst this
      rw [if_pos (by simp; omega), if_pos (by simp at hz; omega), flatTs]; rfl
    · rw [if_neg (by push_cast; omega), show p + ((ts.length + 1 : Nat) : Int) - 1 = p + ts.length by push_cast; omega, endGo_Ts ts p rest hok.2 hp hz (by push_cast at hf; omega)]
      omega
end
theorem endV_T (t : VT) (rest : List VN) (hok : okT t) (hl : (flatT t).length ≤ 1000000) : endV (flatT t ++ rest) = (flatT t).length := by
  unfold endV
  rw [endGo_T t 1 rest hok ⟨by omega, by omega⟩, if_pos rfl]; omega
theorem endGo_le : ∀ (l : List VN) (o : Int), endGo o l ≤ l.length
  | [], o => by rw [endGo]; exact Nat.le_refl _
  | n :: r, o => by
    rw [endGo, List.length_cons]
    split
    · omega
    · have := endGo_le r (stepO o n); omega
theorem endGo_pos (n : VN) (r : List VN) (o : Int) : 1 ≤ endGo o (n :: r) := by
  rw [endGo]; split <;> omega
theorem kidsGo_split : ∀ (c : Nat) (l : List VN), ∃ rest, l = (kidsGo c l).flatten ++ rest
  | 0, l => ⟨l, by rw [kidsGo]; rfl⟩
  | c + 1, [] => ⟨[], by rw [kidsGo]; rfl⟩
  | c + 1, n :: r => by
    obtain ⟨rest, h⟩ := kidsGo_split c ((n :: r).drop (endV (n :: r)))
    refine ⟨rest, ?_⟩
    rw [kidsGo, List.flatten_cons, List.append_assoc, ← h, List.take_append_drop]
theorem kidsGo_T : ∀ (ts : List VT) (rest : List VN), okTs ts → (flatTs ts).length ≤ 1000000 → kidsGo ts.length (flatTs ts ++ rest) = ts.map flatT
  | [], rest, _, _ => by rw [List.length_nil, kidsGo]; rfl
  | t :: ts, rest, hok, hl => by
    rw [okTs] at hok
    rw [flatTs, List.length_append] at hl
    have he := endV_T t (flatTs ts ++ rest) hok.1 (by omega)
    rw [flatTs, List.append_assoc, List.length_cons]
    have hc : flatT t ++ (flatTs ts ++ rest) = rootT t :: (flatTs (subT t) ++ (flatTs ts ++ rest)) := by rw [flatT_eq]; rfl
    rw [hc, kidsGo, ← hc, he, List.take_left, List.drop_left, kidsGo_T ts rest hok.2 (by omega)]
    rfl
theorem kidsV_T (t : VT) (hok : okT t) (hl : (flatT t).length ≤ 1000000) : kidsV (flatT t) = (subT t).map flatT := by
  cases t with
  | mk n ts =>
    rw [okT] at hok
    rw [flatT] at hl ⊢
    rw [List.length_cons] at hl
    rw [kidsV, ← hok.2.1, Int.toNat_natCast]
    have := kidsGo_T ts [] hok.2.2.2 (by omega)
    rw [List.append_nil] at this
    exact this
theorem kids_len : ∀ (c : Nat) (r : List VN) (l : List VN), l ∈ kidsGo c r → l.length ≤ r.length ∧ l ≠ []
  | 0, r, l, h => by simp [kidsGo] at h
  | c + 1, [], l, h => by simp [kidsGo] at h
  | c + 1, n :: r, l, h => by
    rw [kidsGo] at h
    rcases List.mem_cons.1 h with rfl | h
    · refine ⟨by rw [List.length_take]; omega, fun e => ?_⟩
      have := congrArg List.length e
      have hp := endGo_pos n r 1
      rw [List.length_take, List.length_cons, List.length_nil] at this
      unfold endV at this
      omega
    · have := kids_len c _ l h
      rw [List.length_drop] at this
      exact ⟨by omega, this.2⟩

theorem pick_all {P : List VN → VT → Prop} : ∀ (ls : List (List VN)), (∀ l ∈ ls, ∃ t, P l t) → ∃ ts : List VT, ts.length = ls.length ∧ ∀ (i : Nat) (l : List VN) (t : VT), ls[i]? = some l → ts[i]? = some t → P l t
  | [], _ => ⟨[], rfl, fun i l t h => by simp at h⟩
  | l :: ls, h => by
    obtain ⟨t, ht⟩ := h l (by simp)
    obtain ⟨ts, hl, hts⟩ := pick_all ls fun x hx => h x (by simp [hx])
    refine ⟨t :: ts, by simp [hl], fun i x u hx hu => ?_⟩
    cases i with
    | zero =>
      simp only [List.getElem?_cons_zero, Option.some.injEq] at hx hu
      subst hx hu; exact ht
    | succ i => exact hts i x u (by simpa using hx) (by simpa using hu)
/-- What is right is a tree. -/
theorem tree_of {l : List VN} (h : TreeI l) (hl : l.length ≤ 1000000) : ∃ t, flatT t = l ∧ okT t := by
  induction h with
  | mk n r hu he hk hp _ ih =>
    rw [List.length_cons] at hl
    have hsub : ∀ l ∈ kidsV (n :: r), ∃ t, flatT t = l ∧ okT t := fun l hm => ih l hm (by
      rw [kidsV] at hm
      have := (kids_len _ _ _ hm).1
      omega)
    obtain ⟨ts, hlen, hts⟩ := pick_all _ hsub
    have hmap : kidsV (n :: r) = ts.map flatT := by
      refine List.ext_getElem (by rw [List.length_map, hlen]) fun i h1 h2 => ?_
      rw [List.getElem_map]
      rw [List.length_map] at h2
      exact (hts i _ _ (List.getElem?_eq_getElem h1) (List.getElem?_eq_getElem h2)).1.symm
    have hok : okTs ts := okTs_of fun t ht => by
      obtain ⟨i, hi, rfl⟩ := List.getElem_of_mem ht
      exact (hts i _ _ (List.getElem?_eq_getElem (by omega : i < (kidsV (n :: r)).length)) (List.getElem?_eq_getElem hi)).2
    have hm := hu.many
    have hlenI : (ts.length : Int) = manyV n := by
      rw [hlen, hk]; omega
    obtain ⟨rest, hr⟩ := kidsGo_split (manyV n).toNat r
    have hk2 : kidsGo (manyV n).toNat r = ts.map flatT := by rw [← hmap]; rfl
    rw [hk2, ← flatTs_join] at hr
    have hrest : rest = [] := by
      unfold endV at he
      have hrl : r.length = (flatTs ts).length + rest.length := by rw [← List.length_append, ← hr]
      rw [endGo, stepO_in 1 n (by omega) (by omega) hu, show (1 : Int) - 1 + manyV n = 0 + ts.length by omega, List.length_cons] at he
      by_cases hz : (0 : Int) + ts.length = 0
      · rw [if_pos hz] at he
        exact List.eq_nil_of_length_eq_zero (by omega)
      · rw [if_neg hz] at he
        have hg := endGo_Ts ts 0 rest hok (by omega) hz (by omega)
        rw [← hr, if_pos rfl] at hg
        rw [hg] at he
        exact List.eq_nil_of_length_eq_zero (by omega)
    subst hrest
    rw [List.append_nil] at hr
    refine ⟨.mk n ts, by rw [flatT, ← hr], ?_⟩
    rw [okT]
    refine ⟨hu, hlenI, fun t ht => ?_, hok⟩
    refine hp (flatT t) ?_ (rootT t) (flatTs (subT t)) (flatT_eq t)
    rw [hmap]
    exact List.mem_map_of_mem ht
end Sh
end Go.Proofs.YthamcklkmchkiaaDoor
