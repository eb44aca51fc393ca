/-
  DERIVED. THE LIVE QUESTION OF LAYER 2's STATEMENTS, WALKED: it is true.
-/
import Derived.Test.YtelejpajnemmfaaDoorLxSame
namespace Go.Proofs.YtelejpajnemmfaaDoor
open Go.RowKit
namespace Lxw
open Gl Lx Glw

theorem Tokens_ok (s : ByteArray) (w : World) (hs : s.size ≤ 100000) (hE : Env w) (ts : List Tok) (h : tokL 0 s.data.toList = .inr ts) :
    Calls Tryd.prog 11 #[.string s] w fun e w' => ∃ g cap, e = .returned (.tuple #[.slice (some ⟨g, 0, none⟩) ts.length cap, .int .i64 0, .int .i64 0]) ∧ w.heap.size ≤ g ∧ Rd4 w' g 0 (ts.map t4) ∧ Below w.heap.size w w' :=
  (Tokens s w hs hE).mono fun e w' ⟨h1, hb⟩ => by
    unfold TokIs at h1
    rw [h] at h1
    obtain ⟨v, rfl, hv⟩ := h1
    obtain ⟨g, cap, rfl, hg, _, hr⟩ := hv.rd4 (tokL_ne h)
    exact ⟨g, cap, rfl, hg, hr, hb⟩
theorem Tokens_no (s : ByteArray) (w : World) (hs : s.size ≤ 100000) (hE : Env w) (p : Nat) (h : tokL 0 s.data.toList = .inl p) :
    Calls Tryd.prog 11 #[.string s] w fun e w' => e = .returned (.tuple #[.slice none 0 0, .int .i64 p, .int .i64 2]) ∧ Below w.heap.size w w' :=
  (Tokens s w hs hE).mono fun e w' ⟨h1, hb⟩ => by
    unfold TokIs at h1
    rw [h] at h1
    exact ⟨h1, hb⟩
theorem refTokens_ok (s : ByteArray) (w : World) (hs : s.size ≤ 100000) (ts : List Tok) (h : tokL 0 s.data.toList = .inr ts) :
    Calls Tryd.prog 12 #[.string s] w fun e w' => ∃ g cap, e = .returned (.tuple #[.slice (some ⟨g, 0, none⟩) ts.length cap, .int .i64 0, .int .i64 0]) ∧ w.heap.size ≤ g ∧ Rd4 w' g 0 (ts.map t4) ∧ Below w.heap.size w w' :=
  (refTokens s w hs).mono fun e w' ⟨h1, hb⟩ => by
    unfold TokIs at h1
    rw [h] at h1
    obtain ⟨v, rfl, hv⟩ := h1
    obtain ⟨g, cap, rfl, hg, _, hr⟩ := hv.rd4 (tokL_ne h)
    exact ⟨g, cap, rfl, hg, hr, hb⟩
theorem refTokens_no (s : ByteArray) (w : World) (hs : s.size ≤ 100000) (p : Nat) (h : tokL 0 s.data.toList = .inl p) :
    Calls Tryd.prog 12 #[.string s] w fun e w' => e = .returned (.tuple #[.slice none 0 0, .int .i64 p, .int .i64 2]) ∧ Below w.heap.size w w' :=
  (refTokens s w hs).mono fun e w' ⟨h1, hb⟩ => by
    unfold TokIs at h1
    rw [h] at h1
    exact ⟨h1, hb⟩

def alL : List Tok := [⟨1, [120], 0, 1⟩, ⟨5, [45, 62], 1, 3⟩, ⟨3, [49], 3, 4⟩, ⟨0, [], 8, 8⟩]
theorem al_1 : tokL 0 (ByteArray.mk #[120, 45, 62, 49, 32, 35, 32, 121]).data.toList = .inr alL := by
  show tokL 0 [120, 45, 62, 49, 32, 35, 32, 121] = _
  kernel_rfl
theorem al_2 : tokL 0 (ByteArray.mk #[97, 32, 49, 98]).data.toList = .inl 2 := by
  show tokL 0 [97, 32, 49, 98] = _
  kernel_rfl
theorem al_3 : keysL.contains (ByteArray.mk #[108, 101, 116]).data.toList = true := by
  show keysL.contains [108, 101, 116] = true
  decide
theorem al_4 : join4 (alL.map t4) = [120, 32, 45, 62, 32, 49] := by
  rw [join4_toks]; rfl

theorem al_Join (g cap : Nat) (w : World) (hR : Rd4 w g 0 (alL.map t4)) (hT : Tabs w) : Calls Tryd.prog 16 #[.slice (some ⟨g, 0, none⟩) 4 cap] w fun e w' => e = .returned (.string ⟨#[120, 32, 45, 62, 32, 49]⟩) ∧ Below w.heap.size w w' := by
  have := Join g 0 cap (alL.map t4) w hR hT (by decide) (by
    intro t ht
    simp only [alL, List.map_cons, List.map_nil, List.mem_cons, List.not_mem_nil, or_false] at ht
    rcases ht with rfl | rfl | rfl | rfl <;> decide) (by rw [al_4]; decide)
  rw [al_4] at this
  exact this
theorem al_IsKey (w : World) (hE : Env w) : Calls Tryd.prog 14 #[.string ⟨#[108, 101, 116]⟩] w fun e w' => e = .returned (.bool true) ∧ Below w.heap.size w w' := by
  have := IsKey ⟨#[108, 101, 116]⟩ w (by decide) hE
  rw [al_3] at this
  exact this

set_option maxHeartbeats 2000000 in
set_option maxRecDepth 100000 in
theorem alive (w : World) (hE : Env w) : Calls Tryd.prog 10 #[] w fun e w' => e = .returned (.bool true) ∧ Below w.heap.size w w' := by
  have HE := Lib.hid hE
  clear hE
  go_enter Tryd.func10, Tryd.ntmps10
  go_wp2_with fail
  refine (Tokens_ok ⟨#[120, 45, 62, 49, 32, 35, 32, 121]⟩ _ (by decide) HE.out alL al_1).mono ?_
  rintro e w1 ⟨g, cap, rfl, hg, hR, b1⟩
  have HR := Lib.hid hR
  have HB := Lib.hid b1
  clear hR b1 hg
  have hl : alL.length = 4 := rfl
  rw [hl]
  clear hl
  dsimp only
  go_wp2_with fail
  refine (Tokens_no ⟨#[97, 32, 49, 98]⟩ _ (by decide) (HE.out.below HB.out) 2 al_2).mono ?_
  rintro e w2 ⟨rfl, b2⟩
  have HR2 := Lib.hid (HR.out.below b2)
  have HB2 := Lib.hid (HB.out.trans (b2.mono HB.out.size))
  clear b2 HR HB
  have c5 : w2.cell? ⟨g, 5, none⟩ = some (.string ⟨#[45, 62]⟩) := (HR2.out.2 1 _ rfl).2.1
  have c8 : w2.cell? ⟨g, 8, none⟩ = some (.int .i64 3) := (HR2.out.2 2 _ rfl).1
  have c14 : w2.cell? ⟨g, 14, none⟩ = some (.int .i64 8) := (HR2.out.2 3 _ rfl).2.2.1
  dsimp only
  go_wp2_with fail
  refine (al_IsKey _ (HE.out.below HB2.out)).mono ?_
  rintro e w3 ⟨rfl, b3⟩
  have HR3 := Lib.hid (HR2.out.below b3)
  have HB3 := Lib.hid (HB2.out.trans (b3.mono HB2.out.size))
  clear b3 c5 c8 c14
  dsimp only
  go_wp2_with fail
  refine (al_Join _ _ _ HR3.out (HE.out.below HB3.out).tabs).mono ?_
  rintro e w4 ⟨rfl, b4⟩
  dsimp only
  go_wp2
  go_ret
  exact ⟨rfl, HB3.out.trans (b4.mono HB3.out.size)⟩
end Lxw
end Go.Proofs.YtelejpajnemmfaaDoor
