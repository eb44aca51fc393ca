/-
  DERIVED. LAYER 3 (ty): a right, plain type as a tree, plain; and its text.
-/
import Derived.Test.YthamcklkmchkiaaDoorShRef03
namespace Go.Proofs.YthamcklkmchkiaaDoor
open Go.RowKit
namespace Sh
open Gl

inductive TT where
  | mk (n : TN) (ts : List TT)
def rootTT : TT → TN
  | .mk n _ => n
def subTT : TT → List TT
  | .mk _ ts => ts
mutual
def flatTT : TT → List TN
  | .mk n ts => n :: flatTTs ts
def flatTTs : List TT → List TN
  | [] => []
  | t :: ts => flatTT t ++ flatTTs ts
end
mutual
def okTT : TT → Prop
  | .mk n ts => NumOk n ∧ (ts.length : Int) = manyT n ∧ (n.k ≠ 8 ∧ n.k ≠ 9) ∧ okTTs ts
def okTTs : List TT → Prop
  | [] => True
  | t :: ts => okTT t ∧ okTTs ts
end
theorem okTTs_mem : ∀ {ts : List TT}, okTTs ts → ∀ t ∈ ts, okTT t
  | [], _, t, h => by simp at h
  | u :: ts, h, t, ht => by
    rw [okTTs] at h
    rcases List.mem_cons.1 ht with rfl | ht
    · exact h.1
    · exact okTTs_mem h.2 t ht
theorem flatTT_eq : ∀ t : TT, flatTT t = rootTT t :: flatTTs (subTT t)
  | .mk n ts => by rw [flatTT]; rfl
theorem numMany {n : TN} (h : NumOk n) : 0 ≤ manyT n ∧ manyT n ≤ 50 := Shw.numOk_many h
theorem stepTy_in (o : Int) (n : TN) (h0 : 0 < o) (h1 : o ≤ 1000000000000) (hu : NumOk n) : stepTy o n = o - 1 + manyT n := by
  have := numMany hu
  unfold stepTy
  rw [wrap_in (a := o - 1) (by omega) (by omega), wrap_in (by omega) (by omega)]
mutual
theorem endTo_T : ∀ (t : TT) (o : Int) (rest : List TN), okTT t → 0 < o → o + 100 * ((flatTT t).length : Int) ≤ 1000000000000 → endTo o (flatTT t ++ rest) = (flatTT t).length + (if o = 1 then 0 else endTo (o - 1) rest)
  | .mk n ts, o, rest, hok, f0, f1 => by
    rw [okTT] at hok
    rw [flatTT] at f1 ⊢
    rw [List.length_cons] at f1
    have hm := numMany hok.1
    have hs := stepTy_in o n f0 (by omega) hok.1
    rw [List.cons_append, endTo, hs, List.length_cons]
    by_cases hz : o - 1 + manyT n = 0
    · rw [if_pos hz, if_pos (by omega)]
      have : ts = [] := List.eq_nil_of_length_eq_zero (by omega)
      subst this
      rw [flatTTs]; rfl
    · rw [if_neg hz]
      have h := endTo_Ts ts (o - 1) rest hok.2.2.2 (by omega) (by omega) (by push_cast at f1; omega)
      rw [hok.2.1] at h
      rw [h]
      by_cases h1 : o = 1
      · rw [if_pos h1, if_pos (by omega)]; omega
      · rw [if_neg h1, if_neg (by omega)]; omega
theorem endTo_Ts : ∀ (ts : List TT) (p : Int) (rest : List TN), okTTs ts → 0 ≤ p → p + ts.length ≠ 0 → p + ts.length + 100 * ((flatTTs ts).length : Int) ≤ 1000000000000 →
    endTo (p + ts.length) (flatTTs ts ++ rest) = (flatTTs ts).length + (if p = 0 then 0 else endTo p rest)
  | [], p, rest, _, _, hne, _ => by
    rw [flatTTs] at *
    simp only [List.length_nil, List.nil_append, Nat.zero_add] at hne ⊢
    rw [if_neg (by omega)]
    congr 1
    omega
  | t :: ts, p, rest, hok, hp, _, hf => by
    rw [okTTs] at hok
    rw [flatTTs] at hf ⊢
    rw [List.length_append] at hf ⊢
    rw [List.length_cons] at hf ⊢
    rw [List.append_assoc, endTo_T t _ _ hok.1 (by push_cast; omega) (by push_cast at hf ⊢; omega)]
    by_cases hz : p + ts.length = 0
    · have : ts = [] := List.eq_nil_of_length_eq_zero (by omega)
      subst this
      rw [if_pos (by simp; omega), if_pos (by simp at hz; omega), flatTTs]; rfl
    · rw [if_neg (by push_cast; omega), show p + ((ts.length + 1 : Nat) : Int) - 1 = p + ts.length by push_cast; omega, endTo_Ts ts p rest hok.2 hp hz (by push_cast at hf; omega)]
      omega
end
theorem endT_T (t : TT) (rest : List TN) (hok : okTT t) (hl : (flatTT t).length ≤ 1000000) : endT (flatTT t ++ rest) = (flatTT t).length := by
  unfold endT
  rw [endTo_T t 1 rest hok (by omega) (by omega), if_pos rfl]; omega

/-- The places of trees, one behind the other. -/
def offs : Nat → List TT → List Nat
  | _, [] => []
  | i, t :: ts => i :: offs (i + (flatTT t).length) ts
theorem offs_len : ∀ (ts : List TT) (i : Nat), (offs i ts).length = ts.length
  | [], i => rfl
  | t :: ts, i => by rw [offs, List.length_cons, List.length_cons, offs_len ts]
theorem kidPos_offs (L : List TN) (hL : L.length ≤ 1000000) : ∀ (ts : List TT) (i : Nat) (rest : List TN), okTTs ts → L.drop i = flatTTs ts ++ rest → kidPos L ts.length i = offs i ts
  | [], i, rest, _, _ => by rw [List.length_nil, kidPos, offs]
  | t :: ts, i, rest, hok, h => by
    rw [okTTs] at hok
    rw [flatTTs, List.append_assoc] at h
    have hi : i < L.length := by
      rcases Nat.lt_or_ge i L.length with h' | h'
      · exact h'
      · rw [List.drop_of_length_le h', flatTT_eq] at h
        simp at h
    have hle : (flatTT t).length ≤ 1000000 := by
      have := congrArg List.length h
      rw [List.length_drop, List.length_append] at this
      omega
    have he := endT_T t (flatTTs ts ++ rest) hok.1 hle
    rw [← h] at he
    have hd : L.drop (i + (flatTT t).length) = flatTTs ts ++ rest := by
      rw [← List.drop_drop, h, List.drop_left]
    rw [List.length_cons, kidPos, if_pos hi, offs, he, kidPos_offs L hL ts _ rest hok.2 hd]
/-- A node's children, where a tree stands. -/
theorem kidsT_offs (L : List TN) (hL : L.length ≤ 1000000) (t : TT) (i : Nat) (rest : List TN) (hok : okTT t) (h : L.drop i = flatTT t ++ rest) : kidsT L i = offs (i + 1) (subTT t) := by
  cases t with
  | mk n ts =>
    rw [okTT] at hok
    rw [flatTT, List.cons_append] at h
    have hn : L[i]? = some n := by
      have := congrArg (fun l : List TN => l[0]?) h
      simpa using this
    have hd : L.drop (i + 1) = flatTTs ts ++ rest := by
      rw [← List.drop_drop, h]; rfl
    unfold kidsT
    rw [hn]
    show kidPos L (manyT n).toNat (i + 1) = offs (i + 1) ts
    rw [← hok.2.1, Int.toNat_natCast]
    exact kidPos_offs L hL ts (i + 1) rest hok.2.2.2 hd

/-- Where each child has a tree, so have so many. -/
theorem trees_of (L : List TN) (hL : L.length ≤ 1000000) : ∀ (c i : Nat), (kidPos L c i).length = c → (∀ p, i ≤ p → p < L.length → ∃ t rest, okTT t ∧ L.drop p = flatTT t ++ rest) → ∃ ts rest, ts.length = c ∧ okTTs ts ∧ L.drop i = flatTTs ts ++ rest
  | 0, i, _, _ => ⟨[], L.drop i, rfl, by rw [okTTs]; trivial, by rw [flatTTs]; rfl⟩
  | c + 1, i, h, hall => by
    rw [kidPos] at h
    by_cases hi : i < L.length
    · rw [if_pos hi, List.length_cons] at h
      obtain ⟨t, rest, hok, hd⟩ := hall i (Nat.le_refl _) hi
      have hle : (flatTT t).length ≤ 1000000 := by
        have := congrArg List.length hd
        rw [List.length_drop, List.length_append] at this
        omega
      have he := endT_T t rest hok hle
      rw [← hd] at he
      rw [he] at h
      obtain ⟨ts, rest', h1, h2, h3⟩ := trees_of L hL c (i + (flatTT t).length) (by omega) (fun p hp hpl => hall p (by omega) hpl)
      refine ⟨t :: ts, rest', by rw [List.length_cons, h1], by rw [okTTs]; exact ⟨hok, h2⟩, ?_⟩
      rw [← List.drop_drop, hd, List.drop_left] at h3
      rw [hd, h3, flatTTs, List.append_assoc]
    · rw [if_neg hi] at h
      simp at h
theorem tree_at (L : List TN) (hL : L.length ≤ 1000000) (hr : Shw.RightT L) (hp : Shw.PlainT L) : ∀ (m i : Nat), L.length - i ≤ m → i < L.length → ∃ t rest, okTT t ∧ L.drop i = flatTT t ++ rest
  | 0, i, h, hi => by omega
  | m + 1, i, h, hi => by
    have hn : L[i]? = some L[i] := List.getElem?_eq_getElem hi
    have hlab := hr.2.2 i hi L[i] hn
    have hm := numMany (hr.1 _ (List.getElem_mem hi))
    have hk : kidsT L i = kidPos L (manyT L[i]).toNat (i + 1) := by unfold kidsT; rw [hn]
    rw [hk] at hlab
    obtain ⟨ts, rest, h1, h2, h3⟩ := trees_of L hL (manyT L[i]).toNat (i + 1) (by omega) (fun p hp1 hp2 => tree_at L hL hr hp m p (by omega) hp2)
    refine ⟨.mk L[i] ts, rest, ?_, ?_⟩
    · rw [okTT]
      exact ⟨hr.1 _ (List.getElem_mem hi), by omega, hp _ (List.getElem_mem hi), h2⟩
    · rw [List.drop_eq_getElem_cons hi, h3, flatTT]; rfl
/-- What is right and plain is a tree. -/
theorem tree_type (L : List TN) (hL : L.length ≤ 1000000) (hne : 0 < L.length) (hr : Shw.RightT L) (hp : Shw.PlainT L) : ∃ t, okTT t ∧ flatTT t = L := by
  obtain ⟨t, rest, hok, h⟩ := tree_at L hL hr hp L.length 0 (by omega) hne
  rw [List.drop_zero] at h
  have hle : (flatTT t).length ≤ 1000000 := by
    have := congrArg List.length h
    rw [List.length_append] at this
    omega
  have he := endT_T t rest hok hle
  rw [← h, hr.2.1] at he
  have hrest : rest = [] := by
    have := congrArg List.length h
    rw [List.length_append] at this
    exact List.eq_nil_of_length_eq_zero (by omega)
  subst hrest
  exact ⟨t, hok, by rw [h, List.append_nil]⟩

/-! Its text. -/
def wordTx (k : Int) : List UInt8 := if k = 0 then [63] else if k = 1 then [105, 110, 116] else if k = 2 then [98, 111, 111, 108] else if k = 3 then [115, 116, 114, 105, 110, 103] else [117, 110, 105, 116]
mutual
def printTT : TT → List UInt8
  | .mk n ts => if n.k = 5 then arrowTT ts else if n.k = 6 then 123 :: (rowTT [44, 32] ts ++ [125]) else if n.k = 7 then 91 :: (rowTT [32, 124, 32] ts ++ [93]) else wordTx n.k
def arrowTT : List TT → List UInt8
  | [] => []
  | a :: ts => (if (rootTT a).k = 5 then 40 :: (printTT a ++ [41]) else printTT a) ++ ([32, 45, 62, 32] ++ lastTT ts)
def lastTT : List TT → List UInt8
  | [] => []
  | a :: _ => printTT a
def rowTT (sep : List UInt8) : List TT → List UInt8
  | [] => []
  | a :: ts => (rootTT a).nm.data.toList ++ ([58, 32] ++ (printTT a ++ tailTT sep ts))
def tailTT (sep : List UInt8) : List TT → List UInt8
  | [] => []
  | a :: ts => sep ++ ((rootTT a).nm.data.toList ++ ([58, 32] ++ (printTT a ++ tailTT sep ts)))
end
end Sh
end Go.Proofs.YthamcklkmchkiaaDoor
