/-
  DERIVED. THE STATEMENTS GlyphTells, GlyphReads, GlyphPlaces, WALKED.
-/
import Derived.Test.YtjjkbfjahljeeaaDoorGlAlive
namespace Go.Proofs.YtjjkbfjahljeeaaDoor
open Go.RowKit
namespace Glw
open Gl

set_option maxHeartbeats 1000000 in
theorem law_tells (s : ByteArray) (w : World) (hT : Tabs w) : Calls Tryd.prog 3 #[.string s] w fun e w' => e = .returned (.bool true) ∧ Below w.heap.size w w' := by
  have HT := Lib.hid hT
  clear hT
  by_cases h : 2000 < s.size
  · have h' : (2000 : Int) < s.size := by omega
    go_enter Tryd.func3, Tryd.ntmps3
    go_wp2_with (go_at_call 11; refine (alive _ HT.out).mono ?_)
    rintro e w1 ⟨rfl, b1⟩
    go_wp2
    go_ret
    exact ⟨rfl, b1⟩
  · have h' : (s.size : Int) ≤ 2000 := by omega
    have hs : s.size ≤ 17592186044416 := by omega
    clear h
    go_enter Tryd.func3, Tryd.ntmps3
    go_wp2_with (go_at_call 11; refine (alive _ HT.out).mono ?_)
    rintro e w1 ⟨rfl, b1⟩
    go_wp2_with (go_at_call 12; refine (IsWord _ _).mono ?_)
    rintro e w2 ⟨rfl, b2⟩
    have c2 := b1.trans (b2.mono b1.size)
    clear b1 b2
    go_wp2_with (go_at_call 13; refine (refIsWord _ _ (by omega)).mono ?_; rintro e w' ⟨rfl, rfl⟩)
    go_wp2_with (go_at_call 14; refine (IsTag _ _).mono ?_)
    rintro e w3 ⟨rfl, b3⟩
    have c3 := c2.trans (b3.mono c2.size)
    clear b3 c2
    go_wp2_with (go_at_call 15; refine (refIsTag _ _ (by omega)).mono ?_; rintro e w' ⟨rfl, rfl⟩)
    go_wp2_with (go_at_call 16; refine (Quote _ _ (Utf8Tabs_below HT.out c3) hs).mono ?_)
    rintro e w4 ⟨rfl, b4⟩
    have c4 := c3.trans (b4.mono c3.size)
    clear b4 c3
    go_wp2_with (go_at_call 17; refine (refQuote _ _ hs).mono ?_; rintro e w' ⟨rfl, rfl⟩)
    go_ret
    exact ⟨rfl, c4⟩

/-- The two readings, by the plain answer's parts. -/
theorem Unquote_parts (s : ByteArray) (w : World) (hT : Tabs w) (hs : s.size ≤ 17592186044416) (x : List UInt8) (n e : Int) (h : unquoteL s.data.toList = (x, n, e)) :
    Calls Tryd.prog 18 #[.string s] w fun en w' => en = .returned (.tuple #[.string ⟨x.toArray⟩, .int .i64 n, .int .i64 e]) ∧ Below w.heap.size w w' := by
  have := Unquote s w hT hs
  rw [h] at this
  exact this
theorem refUnquote_parts (s : ByteArray) (w : World) (hs : s.size ≤ 17592186044416) (x : List UInt8) (n e : Int) (h : unquoteL s.data.toList = (x, n, e)) :
    Calls Tryd.prog 19 #[.string s] w fun en w' => en = .returned (.tuple #[.string ⟨x.toArray⟩, .int .i64 n, .int .i64 e]) ∧ Below w.heap.size w w' := by
  have := refUnquote s w hs
  rw [h] at this
  exact this

set_option maxHeartbeats 1000000 in
theorem law_reads (s : ByteArray) (w : World) (hT : Tabs w) : Calls Tryd.prog 4 #[.string s] w fun e w' => e = .returned (.bool true) ∧ Below w.heap.size w w' := by
  have HT := Lib.hid hT
  clear hT
  by_cases h : 2000 < s.size
  · have h' : (2000 : Int) < s.size := by omega
    go_enter Tryd.func4, Tryd.ntmps4
    go_wp2_with (go_at_call 11; refine (alive _ HT.out).mono ?_)
    rintro e w1 ⟨rfl, b1⟩
    go_wp2
    go_ret
    exact ⟨rfl, b1⟩
  · have h' : (s.size : Int) ≤ 2000 := by omega
    have hs : s.size ≤ 17592186044416 := by omega
    clear h
    obtain ⟨x, n, en, hA⟩ : ∃ x n en, unquoteL s.data.toList = (x, n, en) := ⟨_, _, _, rfl⟩
    have HA := Lib.hid hA
    clear hA
    go_enter Tryd.func4, Tryd.ntmps4
    go_wp2_with (go_at_call 18; refine (Unquote_parts _ _ HT.out hs _ _ _ HA.out).mono ?_)
    rintro e w1 ⟨rfl, b1⟩
    go_wp2_with (go_at_call 19; refine (refUnquote_parts _ _ hs _ _ _ HA.out).mono ?_)
    rintro e w2 ⟨rfl, b2⟩
    have c2 := b1.trans (b2.mono b1.size)
    clear b1 b2
    go_wp2_with (go_at_call 11; refine (alive _ (Utf8Tabs_below HT.out c2)).mono ?_)
    rintro e w3 ⟨rfl, b3⟩
    have c3 := c2.trans (b3.mono c2.size)
    clear b3 c2
    go_wp2
    go_ret
    exact ⟨rfl, c3⟩

set_option maxHeartbeats 1000000 in
theorem law_places (s : ByteArray) (at' : Int) (_ : -9223372036854775808 ≤ at' ∧ at' ≤ 9223372036854775807) (w : World) (hT : Tabs w) : Calls Tryd.prog 5 #[.string s, .int .i64 at'] w fun e w' => e = .returned (.bool true) ∧ Below w.heap.size w w' := by
  have HT := Lib.hid hT
  clear hT
  by_cases h : 2000 < s.size
  · have h' : (2000 : Int) < s.size := by omega
    go_enter Tryd.func5, Tryd.ntmps5
    go_wp2_with (go_at_call 11; refine (alive _ HT.out).mono ?_)
    rintro e w1 ⟨rfl, b1⟩
    go_wp2
    go_ret
    exact ⟨rfl, b1⟩
  · have h' : (s.size : Int) ≤ 2000 := by omega
    clear h
    go_enter Tryd.func5, Tryd.ntmps5
    go_wp2_with (go_at_call 20; refine (Place _ _ _ (by omega)).mono ?_)
    rintro e w1 ⟨rfl, b1⟩
    go_wp2_with (go_at_call 21; refine (refPlace _ _ _ (by omega)).mono ?_; rintro e w' ⟨rfl, rfl⟩)
    go_wp2_with (go_at_call 11; refine (alive _ (Utf8Tabs_below HT.out b1)).mono ?_)
    rintro e w3 ⟨rfl, b3⟩
    have c3 := b1.trans (b3.mono b1.size)
    clear b3 b1
    go_wp2
    go_ret
    exact ⟨rfl, c3⟩
end Glw
end Go.Proofs.YtjjkbfjahljeeaaDoor
