/-
  DERIVED. THE LIVE QUESTION OF LAYER 1's STATEMENTS, WALKED: it is true.
-/
import Derived.Test.YtjjkbfjahljeeaaDoorGlRefUnq
namespace Go.Proofs.YtjjkbfjahljeeaaDoor
open Go.RowKit
namespace Glw
open Gl

theorem al_unq : unqRes (unquoteL (ByteArray.mk #[34, 97, 92, 34, 98, 34, 99]).data.toList) = .returned (.tuple #[.string ⟨#[97, 34, 98]⟩, .int .i64 6, .int .i64 0]) := by
  have : unquoteL [34, 97, 92, 34, 98, 34, 99] = ([97, 34, 98], 6, 0) := by decide
  show unqRes (unquoteL [34, 97, 92, 34, 98, 34, 99]) = _
  rw [this]
  rfl
theorem al_place : placeL (ByteArray.mk #[97, 10, 98, 99]).data.toList 3 = (2, 2) := by
  show placeL [97, 10, 98, 99] 3 = _
  decide
theorem al_quote : quoteL (ByteArray.mk #[97, 34, 98]).data.toList = [34, 97, 92, 34, 98, 34] := by
  show quoteL [97, 34, 98] = _
  decide
theorem al_word : wordL (ByteArray.mk #[97, 66, 95, 49]).data.toList = true := by
  show wordL [97, 66, 95, 49] = _
  decide
theorem al_tag : tagL (ByteArray.mk #[97]).data.toList = false := by
  show tagL [97] = _
  decide

theorem al_Unquote (w : World) (hT : Tabs w) : Calls Tryd.prog 18 #[.string ⟨#[34, 97, 92, 34, 98, 34, 99]⟩] w fun e w' => e = .returned (.tuple #[.string ⟨#[97, 34, 98]⟩, .int .i64 6, .int .i64 0]) ∧ Below w.heap.size w w' := by
  have := Unquote ⟨#[34, 97, 92, 34, 98, 34, 99]⟩ w hT (by decide)
  rw [al_unq] at this
  exact this
theorem al_Place (w : World) : Calls Tryd.prog 20 #[.string ⟨#[97, 10, 98, 99]⟩, .int .i64 3] w fun e w' => e = .returned (.tuple #[.int .i64 2, .int .i64 2]) ∧ Below w.heap.size w w' := by
  have := Place ⟨#[97, 10, 98, 99]⟩ 3 w (by decide)
  rw [al_place] at this
  exact this
theorem al_Quote (w : World) (hT : Tabs w) : Calls Tryd.prog 16 #[.string ⟨#[97, 34, 98]⟩] w fun e w' => e = .returned (.string ⟨#[34, 97, 92, 34, 98, 34]⟩) ∧ Below w.heap.size w w' := by
  have := Quote ⟨#[97, 34, 98]⟩ w hT (by decide)
  rw [al_quote] at this
  exact this
theorem al_IsWord (w : World) : Calls Tryd.prog 12 #[.string ⟨#[97, 66, 95, 49]⟩] w fun e w' => e = .returned (.bool true) ∧ Below w.heap.size w w' := by
  have := IsWord ⟨#[97, 66, 95, 49]⟩ w
  rw [al_word] at this
  exact this
theorem al_IsTag (w : World) : Calls Tryd.prog 14 #[.string ⟨#[97]⟩] w fun e w' => e = .returned (.bool false) ∧ Below w.heap.size w w' := by
  have := IsTag ⟨#[97]⟩ w
  rw [al_tag] at this
  exact this

set_option maxHeartbeats 1000000 in
theorem alive (w : World) (hT : Tabs w) : Calls Tryd.prog 11 #[] w fun e w' => e = .returned (.bool true) ∧ Below w.heap.size w w' := by
  have HT := Lib.hid hT
  clear hT
  go_enter Tryd.func11, Tryd.ntmps11
  go_wp2_with (go_at_call 18; refine (al_Unquote _ HT.out).mono ?_)
  rintro e w1 ⟨rfl, b1⟩
  go_wp2_with (go_at_call 20; refine (al_Place _).mono ?_)
  rintro e w2 ⟨rfl, b2⟩
  have b2' := b1.trans (b2.mono b1.size)
  clear b2
  go_wp2_with (go_at_call 16; refine (al_Quote _ (Utf8Tabs_below HT.out b2')).mono ?_)
  rintro e w3 ⟨rfl, b3⟩
  have b3' := b2'.trans (b3.mono b2'.size)
  clear b3 b2'
  go_wp2_with (go_at_call 12; refine (al_IsWord _).mono ?_)
  rintro e w4 ⟨rfl, b4⟩
  have b4' := b3'.trans (b4.mono b3'.size)
  clear b4 b3'
  go_wp2_with (go_at_call 14; refine (al_IsTag _).mono ?_)
  rintro e w5 ⟨rfl, b5⟩
  have b5' := b4'.trans (b5.mono b4'.size)
  clear b5 b4'
  go_wp2
  go_ret
  exact ⟨rfl, b5'⟩
end Glw
end Go.Proofs.YtjjkbfjahljeeaaDoor
