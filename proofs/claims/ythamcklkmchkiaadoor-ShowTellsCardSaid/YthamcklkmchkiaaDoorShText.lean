/-
  DERIVED. LAYER 21 (show): a right value's text, by its tree; plain facts of it.
-/
import Derived.Test.YthamcklkmchkiaaDoorShTree
import Derived.Test.YthamcklkmchkiaaDoorShPlain
import Derived.Test.YthamcklkmchkiaaDoorGlPure
namespace Go.Proofs.YthamcklkmchkiaaDoor
open Go.RowKit
namespace Sh
open Gl

def rowTx (ls xs : List (List UInt8)) : List (List UInt8) := List.zipWith (fun l x => l ++ (58 :: 32 :: x)) ls xs
/-- A node's text, by its children's labels and texts. -/
def nodeTx (n : VN) (ls xs : List (List UInt8)) : List UInt8 :=
  if n.k = 0 then Lib.itoa n.num
  else if n.k = 1 then (if n.num = 1 then [116, 114, 117, 101] else [102, 97, 108, 115, 101])
  else if n.k = 2 then quoteL n.nm.data.toList
  else if n.k = 3 then [40, 41]
  else if n.k = 5 then 91 :: (n.nm.data.toList ++ (58 :: 32 :: (xs.headD [] ++ [93])))
  else if n.k = 4 then 123 :: (Lib.join (rowTx ls xs) [44, 32] ++ [125])
  else [60, 102, 117, 110, 62]
def labsT (ts : List VT) : List (List UInt8) := ts.map fun t => (rootT t).lab.data.toList
mutual
def showT : VT → List UInt8
  | .mk n ts => nodeTx n (labsT ts) (showTs ts)
def showTs : List VT → List (List UInt8)
  | [] => []
  | t :: ts => showT t :: showTs ts
end
theorem showTs_map : ∀ ts, showTs ts = ts.map showT
  | [] => by rw [showTs]; rfl
  | t :: ts => by rw [showTs, showTs_map ts]; rfl
theorem fun_T (t : VT) (h : (rootT t).k = 6 ∨ (rootT t).k = 7) : showT t = [60, 102, 117, 110, 62] := by
  cases t with
  | mk n ts =>
    have h' : n.k = 6 ∨ n.k = 7 := h
    rw [showT]
    unfold nodeTx
    rw [if_neg (by omega), if_neg (by omega), if_neg (by omega), if_neg (by omega), if_neg (by omega), if_neg (by omega)]

mutual
theorem showF_T : ∀ (t : VT), okT t → ∀ (f : Nat) (rest : List VN), (flatT t).length ≤ f → showF f (flatT t ++ rest) = some (showT t, (flatT t).length)
  | .mk n ts, hok, f, rest, hf => by
    rw [okT] at hok
    obtain ⟨hu, hm, hkp, hts⟩ := hok
    rw [flatT, List.length_cons] at hf
    obtain ⟨f, rfl⟩ : ∃ g, f = g + 1 := ⟨f - 1, by omega⟩
    have hf' : (flatTs ts).length ≤ f := by omega
    rw [flatT, List.cons_append, showF, showT, List.length_cons]
    unfold nodeTx
    have hu2 := hu.2
    by_cases h0 : n.k = 0
    · have hz : manyV n = 0 := by unfold manyV; rw [if_neg (by omega), if_neg (by omega), if_neg (by omega)]
      have : ts = [] := List.eq_nil_of_length_eq_zero (by omega)
      subst this
      rw [if_pos h0, if_pos h0, flatTs]; rfl
    · rw [if_neg h0, if_neg h0]
      by_cases h1 : n.k = 1
      · have hz : manyV n = 0 := by unfold manyV; rw [if_neg (by omega), if_neg (by omega), if_neg (by omega)]
        have : ts = [] := List.eq_nil_of_length_eq_zero (by omega)
        subst this
        rw [if_pos h1, if_pos h1, flatTs]; rfl
      · rw [if_neg h1, if_neg h1]
        by_cases h2 : n.k = 2
        · have hz : manyV n = 0 := by unfold manyV; rw [if_neg (by omega), if_neg (by omega), if_neg (by omega)]
          have : ts = [] := List.eq_nil_of_length_eq_zero (by omega)
          subst this
          rw [if_pos h2, if_pos h2, flatTs]; rfl
        · rw [if_neg h2, if_neg h2]
          by_cases h3 : n.k = 3
          · have hz : manyV n = 0 := by unfold manyV; rw [if_neg (by omega), if_neg (by omega), if_neg (by omega)]
            have : ts = [] := List.eq_nil_of_length_eq_zero (by omega)
            subst this
            rw [if_pos h3, if_pos h3, flatTs]; rfl
          · rw [if_neg h3, if_neg h3]
            by_cases h5 : n.k = 5
            · have hz : manyV n = 1 := by unfold manyV; rw [if_neg (by omega), if_pos h5]
              match ts, hm, hkp, hts, hf' with
              | [u], _, _, hts, hf' =>
                rw [okTs] at hts
                rw [flatTs, flatTs, List.append_nil] at hf' ⊢
                rw [if_pos h5, if_pos h5, showF_T u hts.1 f rest hf', showTs, showTs]
                simp only [Option.map_some, List.headD_cons]
                rw [Nat.add_comm]
              | [], hm, _, _, _ => simp at hm; omega
              | _ :: _ :: _, hm, _, _, _ => simp at hm; omega
            · rw [if_neg h5, if_neg h5]
              by_cases h4 : n.k = 4
              · have hz : manyV n = max n.many 0 := by unfold manyV; rw [if_pos h4]
                have hmt : n.many.toNat = ts.length := by omega
                rw [if_pos h4, if_pos h4, hmt, rowsG_Ts ts hts f rest hf']
                simp only [Option.map_some]
                rw [Nat.add_comm]
              · rw [if_neg h4, if_neg h4]
                by_cases h7 : n.k = 7
                · have hz : manyV n = 1 := by unfold manyV; rw [if_neg (by omega), if_neg (by omega), if_pos h7]
                  match ts, hm, hkp, hts, hf' with
                  | [u], _, hkp, hts, hf' =>
                    rw [okTs] at hts
                    rw [flatTs, flatTs, List.append_nil] at hf' ⊢
                    rw [if_pos h7, showF_T u hts.1 f rest hf', fun_T u ((hkp u (by simp)).2.2 h7)]
                    simp only [Option.map_some]
                    rw [Nat.add_comm]
                  | [], hm, _, _, _ => simp at hm; omega
                  | _ :: _ :: _, hm, _, _, _ => simp at hm; omega
                · have hz : manyV n = 0 := by unfold manyV; rw [if_neg h4, if_neg h5, if_neg h7]
                  have : ts = [] := List.eq_nil_of_length_eq_zero (by omega)
                  subst this
                  rw [if_neg h7, flatTs]; rfl
theorem rowsG_Ts : ∀ (ts : List VT), okTs ts → ∀ (f : Nat) (rest : List VN), (flatTs ts).length ≤ f → rowsG (showF f) ts.length (flatTs ts ++ rest) = some (rowTx (labsT ts) (showTs ts), (flatTs ts).length)
  | [], _, f, rest, _ => by
    rw [List.length_nil, rowsG, flatTs, showTs]; rfl
  | t :: ts, hok, f, rest, hf => by
    rw [okTs] at hok
    rw [flatTs, List.length_append] at hf
    have h1 := showF_T t hok.1 f (flatTs ts ++ rest) (by omega)
    have h2 := rowsG_Ts ts hok.2 f rest (by omega)
    rw [flatTs, List.length_cons, List.append_assoc]
    have hc : flatT t ++ (flatTs ts ++ rest) = rootT t :: (flatTs (subT t) ++ (flatTs ts ++ rest)) := by rw [flatT_eq]; rfl
    rw [hc, rowsG, ← hc, h1]
    simp only []
    rw [List.drop_left, h2, showTs, List.length_append]
    rfl
end
theorem showF_L {t : VT} (hok : okT t) {f : Nat} (hf : (flatT t).length ≤ f) : showF f (flatT t) = some (showT t, (flatT t).length) := by
  have := showF_T t hok f [] hf
  rw [List.append_nil] at this
  exact this

/-- The root's label is not told. -/
theorem showF_lab (f : Nat) (n : VN) (r : List VN) (y : ByteArray) : showF f ({ n with lab := y } :: r) = showF f (n :: r) := by
  cases f with
  | zero => rfl
  | succ f => rfl

theorem behind_ge {c : UInt8} (h : behindB c = true) : 48 ≤ c.toNat := by
  unfold behindB behindZ at h
  simp only [Bool.or_eq_true, inB_iff, decide_eq_true_eq] at h
  omega
theorem word_ge {l : List UInt8} (h : wordL l = true) : ∀ x ∈ l, 48 ≤ x.toNat := by
  cases l with
  | nil => intro x hx; simp at hx
  | cons c r =>
    rw [wordL, Bool.and_eq_true] at h
    intro x hx
    rcases List.mem_cons.1 hx with rfl | hx
    · have := h.1
      unfold smallB at this
      rw [inB_iff] at this
      omega
    · exact behind_ge (List.all_eq_true.1 h.2 x hx)
theorem tag_ge {l : List UInt8} (h : tagL l = true) : ∀ x ∈ l, 48 ≤ x.toNat := by
  cases l with
  | nil => intro x hx; simp at hx
  | cons c r =>
    rw [tagL, Bool.and_eq_true] at h
    intro x hx
    rcases List.mem_cons.1 hx with rfl | hx
    · have := h.1
      unfold greatB at this
      rw [inB_iff] at this
      omega
    · exact behind_ge (List.all_eq_true.1 h.2 x hx)
theorem itoa_ge (n : Int) : ∀ x ∈ Lib.itoa n, 45 ≤ x.toNat := by
  intro x hx
  obtain ⟨i, hi, rfl⟩ := List.getElem_of_mem hx
  rcases Shw.itoa_at n i _ (List.getElem?_eq_getElem hi) with h | ⟨_, h, _⟩
  · omega
  · rw [h]; decide
theorem join_mem {xs : List (List UInt8)} {sep : List UInt8} {x : UInt8} (h : x ∈ Lib.join xs sep) : (∃ y ∈ xs, x ∈ y) ∨ x ∈ sep := by
  cases xs with
  | nil => rw [Lib.join_nil] at h; simp at h
  | cons y r =>
    rw [Lib.join_cons, List.mem_append] at h
    rcases h with h | h
    · exact .inl ⟨y, by simp, h⟩
    · unfold Lib.joinTail at h
      obtain ⟨z, hz, hx⟩ := List.mem_flatten.1 h
      obtain ⟨u, hu, rfl⟩ := List.mem_map.1 hz
      rcases List.mem_append.1 hx with hx | hx
      · exact .inr hx
      · exact .inl ⟨u, by simp [hu], hx⟩

mutual
theorem ge_T : ∀ (t : VT), okT t → ∀ x ∈ showT t, 32 ≤ x.toNat
  | .mk n ts, hok => by
    rw [okT] at hok
    obtain ⟨hu, hm, hkp, hts⟩ := hok
    rw [showT]
    unfold nodeTx
    intro x hx
    split at hx
    · have := itoa_ge n.num x hx; omega
    · split at hx
      · split at hx
        · simp only [List.mem_cons, List.not_mem_nil, or_false] at hx
          rcases hx with rfl | rfl | rfl | rfl <;> decide
        · simp only [List.mem_cons, List.not_mem_nil, or_false] at hx
          rcases hx with rfl | rfl | rfl | rfl | rfl <;> decide
      · split at hx
        · exact (quoteL_plain _ x hx).1
        · split at hx
          · simp only [List.mem_cons, List.not_mem_nil, or_false] at hx
            rcases hx with rfl | rfl <;> decide
          · split at hx
            · rename_i h5
              rcases List.mem_cons.1 hx with rfl | hx
              · decide
              · rcases List.mem_append.1 hx with hx | hx
                · have ht : tagL n.nm.data.toList = true := by
                    rcases hu.2 with h | h | h | h | h | h | h | h
                    all_goals first | exact h.2.1 | (have := h.1; omega)
                  have := tag_ge ht x hx; omega
                · rcases List.mem_cons.1 hx with rfl | hx
                  · decide
                  · rcases List.mem_cons.1 hx with rfl | hx
                    · decide
                    · rcases List.mem_append.1 hx with hx | hx
                      · cases ts with
                        | nil => rw [showTs] at hx; simp at hx
                        | cons u us =>
                          rw [showTs, List.headD_cons] at hx
                          exact ge_Ts (u :: us) hts (showT u) (by rw [showTs]; simp) x hx
                      · rw [List.mem_singleton.1 hx]; decide
            · split at hx
              · rename_i h4
                rcases List.mem_cons.1 hx with rfl | hx
                · decide
                · rcases List.mem_append.1 hx with hx | hx
                  · rcases join_mem hx with ⟨y, hy, hx⟩ | hx
                    · unfold rowTx at hy
                      obtain ⟨i, hi, rfl⟩ := List.getElem_of_mem hy
                      rw [List.getElem_zipWith] at hx
                      rcases List.mem_append.1 hx with hx | hx
                      · rw [List.length_zipWith] at hi
                        have hl : i < ts.length := by unfold labsT at hi; rw [List.length_map] at hi; omega
                        have hw := (hkp ts[i] (List.getElem_mem hl)).1 h4
                        unfold labsT at hx
                        rw [List.getElem_map] at hx
                        have := word_ge hw x hx; omega
                      · rcases List.mem_cons.1 hx with rfl | hx
                        · decide
                        · rcases List.mem_cons.1 hx with rfl | hx
                          · decide
                          · exact ge_Ts ts hts _ (List.getElem_mem _) x hx
                    · simp only [List.mem_cons, List.not_mem_nil, or_false] at hx
                      rcases hx with rfl | rfl <;> decide
                  · rw [List.mem_singleton.1 hx]; decide
              · simp only [List.mem_cons, List.not_mem_nil, or_false] at hx
                rcases hx with rfl | rfl | rfl | rfl | rfl <;> decide
theorem ge_Ts : ∀ (ts : List VT), okTs ts → ∀ y ∈ showTs ts, ∀ x ∈ y, 32 ≤ x.toNat
  | [], _, y, hy => by rw [showTs] at hy; simp at hy
  | t :: ts, hok, y, hy => by
    rw [okTs] at hok
    rw [showTs] at hy
    rcases List.mem_cons.1 hy with rfl | hy
    · exact ge_T t hok.1
    · exact ge_Ts ts hok.2 y hy
end
theorem show_ne : ∀ t : VT, showT t ≠ []
  | .mk n ts => by
    rw [showT]
    unfold nodeTx
    split
    · exact Shw.itoa_ne _
    · split
      · split <;> simp
      · split
        · unfold quoteL; simp
        · split
          · simp
          · split
            · simp
            · split <;> simp
end Sh
end Go.Proofs.YthamcklkmchkiaaDoor
