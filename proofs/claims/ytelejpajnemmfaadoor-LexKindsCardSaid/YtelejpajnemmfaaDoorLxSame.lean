/-
  DERIVED. LAYER 2 (lex): two rows of the same tokens are the same; the reference's joining, walked.
-/
import Derived.Test.YtelejpajnemmfaaDoorLxRefTok
namespace Go.Proofs.YtelejpajnemmfaaDoor
open Go.RowKit
namespace Lxw
open Gl Lx Glw

set_option maxHeartbeats 1000000 in
set_option maxRecDepth 100000 in
theorem Same_none (w : World) : Calls Tryd.prog 13 #[.slice none 0 0, .slice none 0 0] w fun e w' => e = .returned (.bool true) ∧ Below w.heap.size w w' := by
  go_enter Tryd.func13, Tryd.ntmps13
  go_wp2
  go_loop [5] (fun i => i = .int .i64 0) (fun _ => 0)
  case atStart => rfl
  case round =>
    obtain rfl := hrel
    go_wp2
    go_ret
    exact ⟨rfl, Below.refl _ _⟩

set_option maxHeartbeats 2000000 in
set_option maxRecDepth 100000 in
theorem Same_eq (b b' c c' : Nat) (l : List T4) (w : World) (hR : Rd4 w b 0 l) (hR' : Rd4 w b' 0 l) (hn : l.length ≤ 1000000) :
    Calls Tryd.prog 13 #[.slice (some ⟨b, 0, none⟩) l.length c, .slice (some ⟨b', 0, none⟩) l.length c'] w fun e w' => e = .returned (.bool true) ∧ Below w.heap.size w w' := by
  have HR := Lib.hid hR
  have HR' := Lib.hid hR'
  clear hR hR'
  go_enter Tryd.func13, Tryd.ntmps13
  go_wp2
  go_loopw [5] (fun i wr => ∃ k : Nat, i = .int .i64 k ∧ k ≤ l.length ∧ Below w.heap.size w wr) (fun i _ => l.length - (intOf i).toNat)
  case atStart => exact ⟨0, rfl, Nat.zero_le _, Below.refl _ _⟩
  case round =>
    obtain ⟨k, rfl, hk, hB⟩ := hrel
    have HB := Lib.hid hB
    by_cases hlt : k < l.length
    · obtain ⟨t, ht⟩ : ∃ t, l[k]? = some t := ⟨l[k], List.getElem?_eq_getElem hlt⟩
      obtain ⟨e0, e1, e2, e3⟩ := (HR.out.since HR.out.1 hB).2 k t ht
      obtain ⟨e0', e1', e2', e3'⟩ := (HR'.out.since HR'.out.1 hB).2 k t ht
      rw [Nat.zero_add] at e0 e1 e2 e3 e0' e1' e2' e3'
      have hlt' : (k : Int) < l.length := by omega
      have hk0 : (0 : Int) ≤ k := by omega
      clear hB ht
      go_wp2
      go_quiet (fail)
      go_wp2
      refine ⟨⟨k + 1, by simp, by omega, below_drewN' HB.out _⟩, by simp [intOf]; omega⟩
    · have hlt' : ¬ (k : Int) < l.length := by omega
      go_wp2
      go_ret
      exact ⟨rfl, HB.out⟩

theorem join_snoc (xs : List (List UInt8)) (y : List UInt8) : Lib.join (xs ++ [y]) [32] = if xs = [] then y else Lib.join xs [32] ++ 32 :: y := by
  cases xs with
  | nil => rw [if_pos rfl]; exact Lib.join_one _ _
  | cons x r =>
    rw [if_neg (by simp), List.cons_append, Lib.join_cons, Lib.join_cons]
    simp [Lib.joinTail]

/-- The first tokens' bytes, joined. -/
def joinK (l : List T4) (k : Nat) : List UInt8 := Lib.join (((l.take k).map str4).map (·.data.toList)) [32]
theorem joinK_succ (l : List T4) (k : Nat) (t : T4) (h : l[k]? = some t) : joinK l (k + 1) = if k = 0 then (str4 t).data.toList else joinK l k ++ 32 :: (str4 t).data.toList := by
  have hk : k < l.length := (List.getElem?_eq_some_iff.1 h).1
  unfold joinK
  rw [List.take_add_one, h]
  simp only [Option.toList_some, List.map_append, List.map_cons, List.map_nil]
  rw [join_snoc]
  by_cases h0 : k = 0
  · subst h0; simp
  · rw [if_neg h0, if_neg]
    intro e
    have := congrArg List.length e
    simp only [List.length_map, List.length_take, List.length_nil] at this
    omega
theorem joinK_len (l : List T4) (hx : ∀ t ∈ l, t.x.size ≤ 200) : ∀ k, k ≤ l.length → (joinK l k).length ≤ k * 803
  | 0, _ => by simp [joinK, Lib.join_nil]
  | k + 1, hk => by
    obtain ⟨t, ht⟩ : ∃ t, l[k]? = some t := ⟨l[k], List.getElem?_eq_getElem (by omega)⟩
    have ih := joinK_len l hx k (by omega)
    have h1 := str4_size t
    have h2 := hx t (List.mem_of_getElem? ht)
    rw [joinK_succ l k t ht]
    by_cases h0 : k = 0
    · rw [if_pos h0, size_data]; omega
    · rw [if_neg h0, List.length_append, List.length_cons, size_data]; omega
theorem join4_K (l : List T4) : join4 l = joinK l (l.length - 1) := by
  unfold join4 joinK
  rw [List.dropLast_eq_take]

set_option maxHeartbeats 2000000 in
set_option maxRecDepth 100000 in
theorem refJoin_none (A : Option Addr) (c : Nat) (w : World) : Calls Tryd.prog 17 #[.slice A 0 c] w fun e w' => e = .returned (.string ⟨#[]⟩) ∧ w = w' := by
  go_enter Tryd.func17, Tryd.ntmps17
  go_wp2
  go_loop [3, 4] (fun o i => o = .string ⟨#[]⟩ ∧ i = .int .i64 0) (fun _ _ => 0)
  case atStart => exact ⟨rfl, rfl⟩
  case round =>
    obtain ⟨rfl, rfl⟩ := hrel
    go_wp2
    go_ret
    exact ⟨rfl, rfl⟩
theorem Join_none (A : Option Addr) (c : Nat) (w : World) : Calls Tryd.prog 16 #[.slice A 0 c] w fun e w' => e = .returned (.string ⟨#[]⟩) ∧ w = w' := by
  go_enter Tryd.func16, Tryd.ntmps16
  go_wp2
  go_loop [3, 8] (fun o i => o = .slice none 0 0 ∧ i = .int .i64 0) (fun _ _ => 0)
  case atStart => exact ⟨rfl, rfl⟩
  case round =>
    obtain ⟨rfl, rfl⟩ := hrel
    go_wp2_with fail
    refine (Tryd.strings_Join_none none 0 ⟨#[32]⟩ _).mono ?_
    rintro e w' ⟨rfl, rfl⟩
    dsimp only
    go_wp2
    go_ret
    exact ⟨rfl, rfl⟩

set_option maxHeartbeats 2000000 in
set_option maxRecDepth 100000 in
theorem refJoin (b off c : Nat) (l : List T4) (w : World) (hR : Rd4 w b off l) (hn : l.length ≤ 200) (h0 : 0 < l.length) (hx : ∀ t ∈ l, t.x.size ≤ 200) :
    Calls Tryd.prog 17 #[.slice (some ⟨b, off, none⟩) l.length c] w fun e w' => e = .returned (.string ⟨(join4 l).toArray⟩) ∧ w = w' := by
  have HR := Lib.hid hR
  have HX := Lib.hid hx
  have hl1 : (1 : Int) ≤ l.length := by omega
  clear hR hx
  go_enter Tryd.func17, Tryd.ntmps17
  go_wp2
  go_loop [3, 4] (fun o i => ∃ (k : Nat) (y : ByteArray), i = .int .i64 k ∧ o = .string y ∧ k ≤ l.length - 1 ∧ y.data.toList = joinK l k) (fun _ i => l.length - (intOf i).toNat)
  case atStart => exact ⟨0, ⟨#[]⟩, rfl, rfl, Nat.zero_le _, rfl⟩
  case round =>
    obtain ⟨k, y, rfl, rfl, hk, hy⟩ := hrel
    have hyl := joinK_len l HX.out k (by omega)
    rw [← hy, size_data] at hyl
    have HY := Lib.hid hy
    clear hy
    by_cases hlt : k < l.length - 1
    · obtain ⟨t, ht⟩ : ∃ t, l[k]? = some t := ⟨l[k], List.getElem?_eq_getElem (by omega)⟩
      obtain ⟨e0, e1, e2, e3⟩ := HR.out.2 k t ht
      have hlt' : (k : Int) < (l.length : Int) - 1 := by omega
      have hlt2 : (k : Int) < l.length := by omega
      have hk0 : (0 : Int) ≤ k := by omega
      have hsz := HX.out t (List.mem_of_getElem? ht)
      have hs4 := str4_size t
      have hsuc := joinK_succ l k t ht
      have hky : y.size ≤ 160600 := by omega
      have HSUC := Lib.hid hsuc
      clear ht hsuc hyl
      have t1 : (9223372036854775807 < y.size + (⟨#[32]⟩ : ByteArray).size) = False := by
        have : (⟨#[32]⟩ : ByteArray).size = 1 := rfl
        rw [this]; simp; omega
      have t2 : ∀ z : ByteArray, z.size ≤ 802 → (9223372036854775807 < (y ++ ⟨#[32]⟩ : ByteArray).size + z.size) = False := by
        intro z hz
        have : (⟨#[32]⟩ : ByteArray).size = 1 := rfl
        rw [ByteArray.size_append, this]; simp; omega
      have t3 : ∀ z : ByteArray, z.size ≤ 802 → (9223372036854775807 < y.size + z.size) = False := by
        intro z hz
        simp; omega
      have HT2 := Lib.hid t2
      have HT3 := Lib.hid t3
      clear t2 t3
      by_cases h4 : t.k = 4
      · skip
        have q4 : (t.k == 4) = true := by rw [beq_iff_eq]; exact h4
        have hz : (⟨(quoteL t.x.data.toList).toArray⟩ : ByteArray) = str4 t := by unfold str4; rw [if_pos h4]
        have hzs : (str4 t).size ≤ 802 := by omega
        have HZ := Lib.hid hz
        have u3 := HT3.out (str4 t) hzs
        have u2 := HT2.out (str4 t) hzs
        clear hz h4 hs4
        by_cases hk00 : k = 0
        · subst hk00
          simp only [Nat.zero_mul, Nat.add_zero] at e0 e1
          go_wp2_with fail
          refine (refQuote t.x _ (by omega)).mono ?_
          rintro e w' ⟨rfl, rfl⟩
          rw [HZ.out]
          generalize str4 t = z at u2 u3 hzs HSUC HZ ⊢
          dsimp only
          go_wp2
          refine ⟨⟨1, y ++ z, rfl, rfl, by omega, ?_⟩, by simp [intOf]; omega⟩
          have h1 := HSUC.out
          simp only [if_true] at h1
          rw [app_data, HY.out]
          exact h1.symm
        · have hkp : (0 : Int) < k := by omega
          go_wp2_with fail
          refine (refQuote t.x _ (by omega)).mono ?_
          rintro e w' ⟨rfl, rfl⟩
          rw [HZ.out]
          generalize str4 t = z at u2 u3 hzs HSUC HZ ⊢
          dsimp only
          go_wp2
          refine ⟨⟨k + 1, y ++ ⟨#[32]⟩ ++ z, by simp, rfl, by omega, ?_⟩, by simp [intOf]; omega⟩
          have h1 := HSUC.out
          rw [if_neg hk00] at h1
          rw [app_data, app_data, HY.out, h1, List.append_assoc]
          rfl
      · skip
        have q4 : (t.k == 4) = false := by rw [beq_eq_false_iff_ne]; exact h4
        have hz : t.x = str4 t := by unfold str4; rw [if_neg h4]
        have hzs : (str4 t).size ≤ 802 := by omega
        have HZ := Lib.hid hz
        have u3 := HT3.out (str4 t) hzs
        have u2 := HT2.out (str4 t) hzs
        clear hz h4 hs4
        by_cases hk00 : k = 0
        · subst hk00
          simp only [Nat.zero_mul, Nat.add_zero] at e0 e1
          rw [HZ.out] at e1
          generalize str4 t = z at u2 u3 hzs HSUC HZ e1 ⊢
          go_wp2
          refine ⟨⟨1, y ++ z, rfl, rfl, by omega, ?_⟩, by simp [intOf]; omega⟩
          have h1 := HSUC.out
          simp only [if_true] at h1
          rw [app_data, HY.out]
          exact h1.symm
        · have hkp : (0 : Int) < k := by omega
          rw [HZ.out] at e1
          generalize str4 t = z at u2 u3 hzs HSUC HZ e1 ⊢
          go_wp2
          refine ⟨⟨k + 1, y ++ ⟨#[32]⟩ ++ z, by simp, rfl, by omega, ?_⟩, by simp [intOf]; omega⟩
          have h1 := HSUC.out
          rw [if_neg hk00] at h1
          rw [app_data, app_data, HY.out, h1, List.append_assoc]
          rfl
    · obtain rfl : k = l.length - 1 := by omega
      have hlt' : ¬ ((l.length - 1 : Nat) : Int) < (l.length : Int) - 1 := by omega
      have hj := join4_K l
      have HJ := Lib.hid hj
      clear hj hyl
      go_wp2
      go_ret
      exact ⟨by rw [HJ.out, ← HY.out]; rfl, rfl⟩
end Lxw
end Go.Proofs.YtelejpajnemmfaaDoor
