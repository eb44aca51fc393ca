/-
  DERIVED. THE STATEMENTS GlyphLines, GlyphTexts, GlyphBack, WALKED.
-/
import Derived.Test.YtjjkbfjahljeeaaDoorGlLaws
import Derived.Test.YtjjkbfjahljeeaaDoorGlPure
namespace Go.Proofs.YtjjkbfjahljeeaaDoor
open Go.RowKit
namespace Glw
open Gl

theorem place_le (l : List UInt8) : ∀ (m a b : Int), 1 ≤ b → (placeFrom l m a b).1 ≤ a + l.length ∧ (placeFrom l m a b).2 ≤ b + l.length := by
  induction l using chunk_ind with
  | h0 => intro m a b hb; rw [placeFrom_nil]; simp
  | h1 l hl ih =>
    intro m a b hb
    cases l with
    | nil => exact absurd rfl hl
    | cons c r =>
      have hp := stepL_pos (c :: r)
      have hle := stepL_le (c :: r) hl
      by_cases h : m ≤ 0
      · rw [placeFrom_stop _ _ _ _ h]; simp only []; omega
      · rw [placeFrom_step _ _ _ _ _ (by omega)]
        have := ih (m - stepL (c :: r)) (if c.toNat = 10 then a + 1 else a) (if c.toNat = 10 then 1 else b + 1) (by split <;> omega)
        rw [List.length_drop] at this
        by_cases h10 : c.toNat = 10
        · simp only [if_pos h10] at this ⊢; omega
        · simp only [if_neg h10] at this ⊢; omega

theorem Place_parts (s : ByteArray) (at' : Int) (w : World) (hs : s.size ≤ 35184372088832) (a b : Int) (h : placeL s.data.toList at' = (a, b)) :
    Calls Tryd.prog 20 #[.string s, .int .i64 at'] w fun e w' => e = .returned (.tuple #[.int .i64 a, .int .i64 b]) ∧ Below w.heap.size w w' := by
  have := Place s at' w hs
  rw [h] at this
  exact this

/-- What place_next says of two places in a row. -/
theorem lines_facts (s : ByteArray) (k : Nat) (h : k < s.size) (hs : s.size ≤ 2000) : ∃ a b c d : Int, placeL s.data.toList k = (a, b) ∧ placeL s.data.toList ((k : Int) + 1) = (c, d) ∧
    1 ≤ a ∧ 1 ≤ b ∧ a ≤ 2001 ∧ b ≤ 2001 ∧ ((s.get! k).toNat = 10 → c = a + 1 ∧ d = 1) ∧ ((s.get! k).toNat ≠ 10 → c = a ∧ (d = b ∨ d = b + 1)) := by
  have h1 := place_next s.data.toList k (s.get! k) 1 1 (get_data s k h)
  have h2 := place_one s.data.toList k 1 1 (by decide) (by decide)
  have h3 := place_le s.data.toList k 1 1 (by decide)
  rw [size_data] at h3
  refine ⟨_, _, _, _, rfl, rfl, h2.1, h2.2, ?_, ?_, ?_, ?_⟩
  · show (placeFrom s.data.toList k 1 1).1 ≤ _; omega
  · show (placeFrom s.data.toList k 1 1).2 ≤ _; omega
  · intro e; have := h1.1 e; exact ⟨congrArg Prod.fst this, congrArg Prod.snd this⟩
  · intro e; exact h1.2 e

set_option maxHeartbeats 2000000 in
theorem law_lines (s : ByteArray) (at' : Int) (_ : -9223372036854775808 ≤ at' ∧ at' ≤ 9223372036854775807) (w : World) (hT : Tabs w) : Calls Tryd.prog 7 #[.string s, .int .i64 at'] w fun e w' => e = .returned (.bool true) ∧ Below w.heap.size w w' := by
  have HT := Lib.hid hT
  clear hT
  by_cases h : 2000 < s.size
  · have h' : (2000 : Int) < s.size := by omega
    go_enter Tryd.func7, Tryd.ntmps7
    go_wp2_with (go_at_call 11; refine (alive _ HT.out).mono ?_)
    rintro e w1 ⟨rfl, b1⟩
    go_wp2
    go_ret
    exact ⟨rfl, b1⟩
  · have h' : (s.size : Int) ≤ 2000 := by omega
    by_cases hneg : at' < 0
    · clear h
      go_enter Tryd.func7, Tryd.ntmps7
      go_wp2_with (go_at_call 11; refine (alive _ HT.out).mono ?_)
      rintro e w1 ⟨rfl, b1⟩
      go_wp2
      go_ret
      exact ⟨rfl, b1⟩
    · have h0 : 0 ≤ at' := by omega
      by_cases hbig : (s.size : Int) ≤ at'
      · clear h hneg
        go_enter Tryd.func7, Tryd.ntmps7
        go_wp2_with (go_at_call 11; refine (alive _ HT.out).mono ?_)
        rintro e w1 ⟨rfl, b1⟩
        go_wp2
        go_ret
        exact ⟨rfl, b1⟩
      · obtain ⟨k, rfl⟩ := Int.eq_ofNat_of_zero_le h0
        have hk : k < s.size := by omega
        have hk' : (k : Int) < s.size := by omega
        obtain ⟨a, b, c, d, e1, e2, ha, hb, ha2, hb2, hy, hn⟩ := lines_facts s k hk (by omega)
        have hg := get_lt s k hk
        have P1 := Lib.hid e1
        have P2 := Lib.hid e2
        clear e1 e2 h hneg hbig
        by_cases h10 : (s.get! k).toNat = 10
        · obtain ⟨rfl, rfl⟩ := hy h10
          have q : (((s[k]'hk).toNat : Int) == 10) = true := by rw [hg, beq_iff_eq]; omega
          clear hn hy h10 hg
          go_enter Tryd.func7, Tryd.ntmps7
          go_wp2_with fail
          refine (Place_parts _ _ _ (by omega) _ _ P1.out).mono ?_
          rintro e w1 ⟨rfl, b1⟩
          go_wp2_with fail
          refine (Place_parts _ _ _ (by omega) _ _ P2.out).mono ?_
          rintro e w2 ⟨rfl, b2⟩
          have c2 := b1.trans (b2.mono b1.size)
          clear b1 b2
          go_wp2_with (go_at_call 11; refine (alive _ (Utf8Tabs_below HT.out c2)).mono ?_)
          rintro e w3 ⟨rfl, b3⟩
          have c3 := c2.trans (b3.mono c2.size)
          clear b3 c2
          go_wp2
          go_ret
          exact ⟨rfl, c3⟩
        · obtain ⟨rfl, hd⟩ := hn h10
          have q : (((s[k]'hk).toNat : Int) == 10) = false := by rw [hg, beq_eq_false_iff_ne]; omega
          clear hn hy h10 hg
          rcases hd with rfl | rfl
          all_goals
            go_enter Tryd.func7, Tryd.ntmps7
            go_wp2_with fail
            refine (Place_parts _ _ _ (by omega) _ _ P1.out).mono ?_
            rintro e w1 ⟨rfl, b1⟩
            go_wp2_with fail
            refine (Place_parts _ _ _ (by omega) _ _ P2.out).mono ?_
            rintro e w2 ⟨rfl, b2⟩
            have c2 := b1.trans (b2.mono b1.size)
            clear b1 b2
            go_wp2_with (go_at_call 11; refine (alive _ (Utf8Tabs_below HT.out c2)).mono ?_)
            rintro e w3 ⟨rfl, b3⟩
            have c3 := c2.trans (b3.mono c2.size)
            clear b3 c2
            go_wp2
            go_ret
            exact ⟨rfl, c3⟩

/-- The two places of GlyphTexts. -/
theorem texts_facts (a b : ByteArray) (t : ByteArray) (ht : t.data.toList = a.data.toList ++ 10 :: b.data.toList) (k : Nat) : ∃ u v : Int, placeL b.data.toList k = (u, v) ∧ placeL t.data.toList ((a.size : Int) + 1 + k) = (u + ((endsL a.data.toList + 1 : Nat) : Int), v) := by
  refine ⟨_, _, rfl, ?_⟩
  rw [ht]
  unfold placeL
  have := place_line a.data.toList b.data.toList k 1 1 (by omega)
  rw [size_data] at this
  rw [this, place_shift]
  rfl

theorem ends_le (l : List UInt8) : endsL l ≤ l.length := List.countP_le_length
theorem ends_take (s : ByteArray) (k : Nat) (h : k < s.size) : endsL (s.data.toList.take (k + 1)) = endsL (s.data.toList.take k) + if (s.get! k).toNat = 10 then 1 else 0 := by
  have e := get_data s k h
  rw [List.take_add_one, e]
  unfold endsL
  rw [List.countP_append]
  simp only [Option.toList_some, List.countP_cons, List.countP_nil, beq_iff_eq, Nat.zero_add]
theorem ends_all (s : ByteArray) (k : Nat) (h : s.size ≤ k) : endsL (s.data.toList.take k) = endsL s.data.toList := by rw [List.take_of_length_le (by rw [size_data]; exact h)]

theorem unq_err (l : List UInt8) : ∃ x n e, unquoteL l = (x, n, e) ∧ (e = 0 ∨ e = 2) := by
  by_cases h : l[0]? = some 34
  · cases hu : unqL (l.drop 1) with
    | none => exact ⟨[], 0, 2, by unfold unquoteL; rw [if_pos h, hu]; rfl, .inr rfl⟩
    | some p => exact ⟨_, _, 0, by unfold unquoteL; rw [if_pos h, hu]; rfl, .inl rfl⟩
  · exact ⟨[], 0, 2, by unfold unquoteL; rw [if_neg h], .inr rfl⟩

set_option maxHeartbeats 4000000 in
theorem law_texts (a b : ByteArray) (at' : Int) (_ : -9223372036854775808 ≤ at' ∧ at' ≤ 9223372036854775807) (w : World) (hT : Tabs w) : Calls Tryd.prog 10 #[.string a, .string b, .int .i64 at'] w fun e w' => e = .returned (.bool true) ∧ Below w.heap.size w w' := by
  have HT := Lib.hid hT
  clear hT
  by_cases h : 1000 < a.size
  · have h' : (1000 : Int) < a.size := by omega
    go_enter Tryd.func10, Tryd.ntmps10
    go_wp2_with (go_at_call 11; refine (alive _ HT.out).mono ?_)
    rintro e w1 ⟨rfl, b1⟩
    go_wp2
    go_ret
    exact ⟨rfl, b1⟩
  · have h' : (a.size : Int) ≤ 1000 := by omega
    by_cases hb : 1000 < b.size
    · have hb' : (1000 : Int) < b.size := by omega
      clear h
      go_enter Tryd.func10, Tryd.ntmps10
      go_wp2_with (go_at_call 11; refine (alive _ HT.out).mono ?_)
      rintro e w1 ⟨rfl, b1⟩
      go_wp2
      go_ret
      exact ⟨rfl, b1⟩
    · have hb' : (b.size : Int) ≤ 1000 := by omega
      by_cases hneg : at' < 0
      · clear h hb
        go_enter Tryd.func10, Tryd.ntmps10
        go_wp2_with (go_at_call 11; refine (alive _ HT.out).mono ?_)
        rintro e w1 ⟨rfl, b1⟩
        go_wp2
        go_ret
        exact ⟨rfl, b1⟩
      · have h0 : 0 ≤ at' := by omega
        by_cases hbig : (b.size : Int) < at'
        · clear h hb hneg
          go_enter Tryd.func10, Tryd.ntmps10
          go_wp2_with (go_at_call 11; refine (alive _ HT.out).mono ?_)
          rintro e w1 ⟨rfl, b1⟩
          go_wp2
          go_ret
          exact ⟨rfl, b1⟩
        · obtain ⟨k, rfl⟩ := Int.eq_ofNat_of_zero_le h0
          have hk' : (k : Int) ≤ b.size := by omega
          have ha1 : a.size ≤ 1000 := by omega
          have hb1 : b.size ≤ 1000 := by omega
          have hk1 : k ≤ b.size := by omega
          have ht : ((a ++ ⟨#[10]⟩) ++ b).data.toList = a.data.toList ++ 10 :: b.data.toList := by rw [app_data, app_data]; simp
          have hts : ((a ++ ⟨#[10]⟩) ++ b).size ≤ 35184372088832 := by
            have := size_data ((a ++ ⟨#[10]⟩) ++ b)
            rw [ht, List.length_append, List.length_cons, size_data, size_data] at this
            omega
          obtain ⟨u, v, e1, e2⟩ := texts_facts a b _ ht k
          have hu := (place_le b.data.toList k 1 1 (by decide)).1
          have hu0 := (place_one b.data.toList k 1 1 (by decide) (by decide)).1
          rw [show placeFrom b.data.toList k 1 1 = (u, v) from e1, size_data] at hu
          rw [show placeFrom b.data.toList k 1 1 = (u, v) from e1] at hu0
          simp only [] at hu hu0
          obtain ⟨x, n, en, e3, hen⟩ := unq_err b.data.toList
          obtain ⟨L, hL⟩ : ∃ L, endsL a.data.toList + 1 = L := ⟨_, rfl⟩
          have hLe : L ≤ a.size + 1 := by have := ends_le a.data.toList; rw [size_data] at this; omega
          rw [hL] at e2
          have P1 := Lib.hid e1
          have P2 := Lib.hid e2
          have P3 := Lib.hid e3
          have PL := Lib.hid hL
          have PS := Lib.hid hts
          clear e1 e2 e3 hL ht hts h hb hneg hbig
          go_enter Tryd.func10, Tryd.ntmps10
          go_wp2_with fail
          go_loop [7, 8] (fun l i => ∃ (j m : Nat), j ≤ a.size ∧ m ≤ j + 1 ∧ l = .int .i64 m ∧ i = .int .i64 j ∧ endsL (a.data.toList.take j) + 1 = m) (fun _ i => a.size - (intOf i).toNat)
          case atStart => exact ⟨0, 1, by omega, by omega, rfl, rfl, rfl⟩
          case round =>
            obtain ⟨j, m, hj, hm, rfl, rfl, hends⟩ := hrel
            have He := Lib.hid hends
            clear hends
            by_cases hp : j < a.size
            · have hg := get_lt a j hp
              have Het := Lib.hid (ends_take a j hp)
              by_cases h10 : (a.get! j).toNat = 10
              · have q : (((a[j]'hp).toNat : Int) == 10) = true := by rw [hg, beq_iff_eq]; omega
                have H10 := Lib.hid h10
                clear h10 hg
                go_wp2_with fail
                go_round
                case rel => exact ⟨j + 1, m + 1, by omega, by omega, by go_num, by go_num, by rw [Het.out, if_pos H10.out]; have := He.out; omega⟩
                case measure => simp [intOf]; omega
              · have q : (((a[j]'hp).toNat : Int) == 10) = false := by rw [hg, beq_eq_false_iff_ne]; omega
                have H10 := Lib.hid h10
                clear h10 hg
                go_wp2_with fail
                go_round
                case rel => exact ⟨j + 1, m, by omega, by omega, rfl, by go_num, by rw [Het.out, if_neg H10.out]; have := He.out; omega⟩
                case measure => simp [intOf]; omega
            · have hge : a.size ≤ j := by omega
              obtain rfl : m = L := by rw [← He.out, ends_all a j hge]; exact PL.out
              clear hp
              have hsz1 : (a ++ ⟨#[10]⟩ : ByteArray).size = a.size + 1 := by
                have := size_data (a ++ ⟨#[10]⟩)
                rw [app_data, List.length_append, size_data] at this
                simpa using this.symm
              go_wp2_with fail
              refine (Place_parts _ _ _ PS.out _ _ P2.out).mono ?_
              rintro e w1 ⟨rfl, b1⟩
              go_wp2_with fail
              refine (Place_parts _ _ _ (by omega) _ _ P1.out).mono ?_
              rintro e w2 ⟨rfl, b2⟩
              have c2 := b1.trans (b2.mono b1.size)
              clear b1 b2
              go_wp2_with (go_at_call 18; refine (Unquote_parts _ _ (Utf8Tabs_below HT.out c2) (by omega) _ _ _ P3.out).mono ?_)
              rintro e w3 ⟨rfl, b3⟩
              have c3 := c2.trans (b3.mono c2.size)
              clear b3 c2
              go_wp2_with (go_at_call 11; refine (alive _ (Utf8Tabs_below HT.out c3)).mono ?_)
              rintro e w4 ⟨rfl, b4⟩
              have c4 := c3.trans (b4.mono c3.size)
              clear b4 c3
              rcases hen with rfl | rfl
              all_goals
                go_wp2
                go_ret
                exact ⟨rfl, c4⟩
end Glw
end Go.Proofs.YtjjkbfjahljeeaaDoor
