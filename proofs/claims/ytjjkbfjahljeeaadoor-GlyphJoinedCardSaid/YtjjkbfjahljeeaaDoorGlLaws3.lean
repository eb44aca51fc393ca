/-
  DERIVED. THE STATEMENT GlyphBack, WALKED.
-/
import Derived.Test.YtjjkbfjahljeeaaDoorGlLaws2
namespace Go.Proofs.YtjjkbfjahljeeaaDoor
open Go.RowKit
namespace Glw
open Gl

/-- A text that is another one, quoted. -/
def IsQuote (q s : ByteArray) : Prop := q.data.toList = quoteL s.data.toList
theorem IsQuote.size {q s : ByteArray} (h : IsQuote q s) : q.size ≤ 4 * s.size + 2 ∧ 2 ≤ q.size := by
  have h1 := size_data q
  have h2 := size_data s
  have h3 := quoteL_length s.data.toList
  unfold IsQuote at h
  rw [h] at h1
  omega
theorem IsQuote.same {q q' s : ByteArray} (h : IsQuote q s) (h' : IsQuote q' s) : q' = q := by
  rw [of_data h, of_data h']
theorem IsQuote.inj {q s t : ByteArray} (h : IsQuote q s) (h' : IsQuote q t) : t = s := by
  have e : quoteL s.data.toList = quoteL t.data.toList := h.symm.trans h'
  have := quoteL_inj e
  rw [of_data (b := t) rfl, of_data (b := s) rfl, this]
theorem IsQuote.plain {q s : ByteArray} (h : IsQuote q s) (k : Nat) (hk : k < q.size) : 32 ≤ (q.get! k).toNat ∧ (q.get! k).toNat ≠ 127 := by
  have h1 := get_data q k hk
  unfold IsQuote at h
  rw [h] at h1
  exact quoteL_plain s.data.toList _ (List.mem_of_getElem? h1)

theorem Quote_named (s : ByteArray) (w : World) (hT : Tabs w) (hs : s.size ≤ 17592186044416) :
    Calls Tryd.prog 16 #[.string s] w fun e w' => ∃ q : ByteArray, e = .returned (.string q) ∧ IsQuote q s ∧ Below w.heap.size w w' :=
  (Quote s w hT hs).mono fun _ _ ⟨he, hb⟩ => ⟨_, he, rfl, hb⟩
theorem Unquote_back (s q more : ByteArray) (w : World) (hT : Tabs w) (hq : IsQuote q s) (hs : (q ++ more).size ≤ 17592186044416) :
    Calls Tryd.prog 18 #[.string (q ++ more)] w fun en w' => en = .returned (.tuple #[.string s, .int .i64 q.size, .int .i64 0]) ∧ Below w.heap.size w w' := by
  have h1 := size_data q
  have := Unquote_parts (q ++ more) w hT hs s.data.toList q.size 0 (by
    rw [app_data, show q.data.toList = quoteL s.data.toList from hq, unquote_quote]
    rw [show q.data.toList = quoteL s.data.toList from hq] at h1
    rw [h1])
  rw [← of_data (b := s) rfl] at this
  exact this

theorem str_ne {a b : ByteArray} (h : a ≠ b) : (a.toList == b.toList) = false := by
  rw [beq_eq_false_iff_ne, toList_data, toList_data]
  intro e
  exact h (by rw [of_data (b := a) rfl, of_data (b := b) rfl, e])

set_option maxHeartbeats 4000000 in
set_option maxRecDepth 100000 in
theorem law_back (s more other : ByteArray) (w : World) (hT : Tabs w) : Calls Tryd.prog 6 #[.string s, .string more, .string other] w fun e w' => e = .returned (.bool true) ∧ Below w.heap.size w w' := by
  have HT := Lib.hid hT
  clear hT
  by_cases h : 2000 < s.size
  · have h' : (2000 : Int) < s.size := by omega
    go_enter Tryd.func6, Tryd.ntmps6
    go_wp2_with (go_at_call 11; refine (alive _ HT.out).mono ?_)
    rintro e w1 ⟨rfl, b1⟩
    go_wp2
    go_ret
    exact ⟨rfl, b1⟩
  · have h' : (s.size : Int) ≤ 2000 := by omega
    by_cases hb : 2000 < more.size
    · have hb' : (2000 : Int) < more.size := by omega
      clear h
      go_enter Tryd.func6, Tryd.ntmps6
      go_wp2_with (go_at_call 11; refine (alive _ HT.out).mono ?_)
      rintro e w1 ⟨rfl, b1⟩
      go_wp2
      go_ret
      exact ⟨rfl, b1⟩
    · have hb' : (more.size : Int) ≤ 2000 := by omega
      by_cases ho : 2000 < other.size
      · have ho' : (2000 : Int) < other.size := by omega
        clear h hb
        go_enter Tryd.func6, Tryd.ntmps6
        go_wp2_with (go_at_call 11; refine (alive _ HT.out).mono ?_)
        rintro e w1 ⟨rfl, b1⟩
        go_wp2
        go_ret
        exact ⟨rfl, b1⟩
      · have ho' : (other.size : Int) ≤ 2000 := by omega
        have hs1 : s.size ≤ 17592186044416 := by omega
        have ho1 : other.size ≤ 17592186044416 := by omega
        clear h hb ho
        go_enter Tryd.func6, Tryd.ntmps6
        go_wp2_with fail
        refine (Quote_named s w HT.out hs1).mono ?_
        rintro e w1 ⟨q, rfl, hq, b1⟩
        have hqs := hq.size
        have hq8 : q.size ≤ 8002 := by omega
        have hq2 : 2 ≤ q.size := hqs.2
        have HQ := Lib.hid hq
        clear hq hqs
        have hqm : (q ++ more).size ≤ 17592186044416 := by
          have := size_data (q ++ more)
          rw [app_data, List.length_append, size_data, size_data] at this
          omega
        have HQM := Lib.hid hqm
        clear hqm
        go_wp2_with fail
        refine (Unquote_back s q more w1 (Utf8Tabs_below HT.out b1) HQ.out HQM.out).mono ?_
        rintro e w2 ⟨rfl, b2⟩
        have c2 := b1.trans (b2.mono b1.size)
        clear b1 b2
        go_wp2_with fail
        go_loop [11] (fun i => ∃ k : Nat, k ≤ q.size ∧ i = .int .i64 k) (fun i => q.size - (intOf i).toNat)
        case atStart => exact ⟨0, by omega, rfl⟩
        case round =>
          obtain ⟨k, hk, rfl⟩ := hrel
          by_cases hp : k < q.size
          · have hg := get_lt q k hp
            have hpl := HQ.out.plain k hp
            rw [← hg] at hpl
            have q1 : (32 : Int) ≤ ((q[k]'hp).toNat : Int) := by omega
            have q2 : (((q[k]'hp).toNat : Int) == 127) = false := by rw [beq_eq_false_iff_ne]; omega
            clear hg hpl
            go_wp2_with fail
            go_round
            case rel => exact ⟨k + 1, by omega, by go_num⟩
            case measure => simp [intOf]; omega
          · have hge : q.size ≤ k := by omega
            clear hp
            go_wp2_with fail
            refine (alive _ (Utf8Tabs_below HT.out c2)).mono ?_
            rintro e w3 ⟨rfl, b3⟩
            have c3 := c2.trans (b3.mono c2.size)
            clear b3 c2
            go_wp2_with fail
            refine (Quote_named other _ (Utf8Tabs_below HT.out c3) ho1).mono ?_
            rintro e w4 ⟨q', rfl, hq', b4⟩
            have c4 := c3.trans (b4.mono c3.size)
            clear b4 c3
            by_cases heq : other = s
            · subst heq
              obtain rfl := HQ.out.same hq'
              clear hq'
              go_wp2
              go_ret
              exact ⟨rfl, c4⟩
            · have e1 := str_ne heq
              have e2 : (q'.toList == q.toList) = false := str_ne (fun e => heq (by rw [e] at hq'; exact HQ.out.inj hq'))
              clear hq' heq
              go_wp2
              go_ret
              exact ⟨rfl, c4⟩
end Glw
end Go.Proofs.YtjjkbfjahljeeaaDoor
