/-
  DERIVED. WHAT A BACKSLASH MEANS, WALKED: the program's 'escape'.
-/
import Derived.Test.YtelejpajnemmfaaDoorGlRefQuote
import Derived.Deep.QuietTactic
import Derived.BigQuiet
namespace Go.Proofs.YtelejpajnemmfaaDoor
open Go.RowKit
namespace Glw
open Gl

/-- What 'escape' hands back. -/
def escT (l : List UInt8) : Int × Int := match escL l with
  | some (x, m) => (x.toNat, m)
  | none => (0, 0)

theorem index_hex (c : UInt8) : Lib.indexByte [48, 49, 50, 51, 52, 53, 54, 55, 56, 57, 97, 98, 99, 100, 101, 102] c = sixZ c := by
  have H : ∀ n, n < 256 → Lib.indexByte [48, 49, 50, 51, 52, 53, 54, 55, 56, 57, 97, 98, 99, 100, 101, 102] (UInt8.ofNat n) = sixZ (UInt8.ofNat n) := by decide +kernel
  have := H c.toNat c.toNat_lt
  rwa [UInt8.ofNat_toNat] at this

theorem toUInt8_toNat (c : UInt8) : ((c.toNat : Int).toNat).toUInt8 = c := by rw [Int.toNat_natCast]; exact UInt8.ofNat_toNat

theorem IndexHex (c : UInt8) (w : World) : Calls Tryd.prog 36 #[.string ⟨#[48, 49, 50, 51, 52, 53, 54, 55, 56, 57, 97, 98, 99, 100, 101, 102]⟩, .int .u8 c.toNat] w fun e w' => e = .returned (.int .i64 (sixZ c)) ∧ w' = w := by
  have := Tryd.strings_IndexByte ⟨#[48, 49, 50, 51, 52, 53, 54, 55, 56, 57, 97, 98, 99, 100, 101, 102]⟩ c.toNat w
  rw [toUInt8_toNat] at this
  rw [← index_hex c]
  exact this

theorem sixZ_some {c : UInt8} {x : Nat} (h : hexV c = some x) : sixZ c = x := by unfold sixZ; rw [h]
theorem sixZ_none {c : UInt8} (h : hexV c = none) : sixZ c = -1 := by unfold sixZ; rw [h]
theorem hexV_lt {c : UInt8} {x : Nat} (h : hexV c = some x) : x < 16 := by
  unfold hexV at h
  split at h
  · simp at h; omega
  · split at h
    · simp at h; omega
    · simp at h

theorem ret2 {a b : Value} {p : Value × Value} (h : p = (a, b)) : Ending.returned (.tuple #[p.1, p.2]) = .returned (.tuple #[a, b]) := by subst h; rfl

theorem data_cons (s : ByteArray) (h : 0 < s.size) : s.data.toList = s.get! 0 :: s.data.toList.drop 1 := by
  have := drop_cons s 0 h
  rwa [List.drop_zero] at this
theorem data_cons3 (s : ByteArray) (h : 2 < s.size) : s.data.toList = s.get! 0 :: s.get! 1 :: s.get! 2 :: s.data.toList.drop 3 := by
  have h0 := drop_cons s 0 (by omega)
  have h1 := drop_cons s 1 (by omega)
  have h2 := drop_cons s 2 h
  rw [List.drop_zero] at h0
  exact h0.trans (congrArg _ (h1.trans (congrArg _ h2)))

theorem ne_empty (s : ByteArray) (h : 0 < s.size) : s.toList.isEmpty = false := by
  rw [toList_data]
  cases hh : s.data.toList with
  | nil => have := size_data s; rw [hh] at this; simp at this; omega
  | cons _ _ => rfl

theorem or_hex (x y : Nat) (hx : x < 16) (hy : y < 16) : bits BinOp.or IntKind.i64 ((x : Int) * 16) (y : Int) % 256 = ((UInt8.ofNat (16 * x + y)).toNat : Int) := by
  have H : ∀ x : Nat, x < 16 → ∀ y : Nat, y < 16 → bits BinOp.or IntKind.i64 ((x : Int) * 16) (y : Int) % 256 = ((UInt8.ofNat (16 * x + y)).toNat : Int) := by decide +kernel
  exact H x hx y hy

set_option maxHeartbeats 2000000 in
theorem escape (s : ByteArray) (w : World) (hs : s.size ≤ 35184372088832) :
    Calls Tryd.prog 65 #[.string s] w fun e w' => e = .returned (.tuple #[.int .u8 (escT s.data.toList).1, .int .i64 (escT s.data.toList).2]) ∧ Below w.heap.size w w' := by
  by_cases hz : s.size = 0
  · have he : s.toList.isEmpty = true := by rw [toList_data, data_nil s hz]; rfl
    have he' : s.toList = [] := by rw [toList_data, data_nil s hz]
    rw [data_nil s hz]
    go_enter Tryd.func65, Tryd.ntmps65
    go_wp2
    go_ret2
    exact ⟨rfl, Below.refl _ _⟩
  · have h0 : 0 < s.size := by omega
    have he := ne_empty s h0
    have hd := data_cons s h0
    have hg := get_lt s 0 h0
    have h0' : (0 : Int) < s.size := by omega
    clear hz
    obtain ⟨T, hT⟩ : ∃ T, escT s.data.toList = T := ⟨_, rfl⟩
    have HT := Lib.hid hT
    rw [hT]
    clear hT
    have Hd := Lib.hid hd
    clear hd
    obtain ⟨c, hc⟩ : ∃ c, s.get! 0 = c := ⟨_, rfl⟩
    have HC := Lib.hid hc
    rw [hc] at hg
    clear hc
    have cl := c.toNat_lt
    by_cases h92 : c.toNat = 92
    · have fin : T = (92, 1) := by
        rw [← HT.out, Hd.out, HC.out]; unfold escT escL; simp only [if_pos (show c.toNat = 92 ∨ c.toNat = 34 by omega)]; rw [show (c.toNat : Int) = 92 from by omega]; rfl
      subst fin
      go_enter Tryd.func65, Tryd.ntmps65
      go_wp2
      go_ret2
      exact ⟨rfl, Below.refl _ _⟩
    · skip
      by_cases h34 : c.toNat = 34
      · have fin : T = (34, 1) := by
          rw [← HT.out, Hd.out, HC.out]; unfold escT escL; simp only [if_pos (show c.toNat = 92 ∨ c.toNat = 34 by omega)]; rw [show (c.toNat : Int) = 34 from by omega]; rfl
        subst fin
        go_enter Tryd.func65, Tryd.ntmps65
        go_wp2
        go_ret2
        exact ⟨rfl, Below.refl _ _⟩
      · skip
        by_cases h110 : c.toNat = 110
        · have fin : T = (10, 1) := by
            rw [← HT.out, Hd.out, HC.out]; unfold escT escL; simp only [if_neg (show ¬ (c.toNat = 92 ∨ c.toNat = 34) by omega), if_pos h110]; rfl
          subst fin
          go_enter Tryd.func65, Tryd.ntmps65
          go_wp2
          go_ret2
          exact ⟨rfl, Below.refl _ _⟩
        · skip
          by_cases h116 : c.toNat = 116
          · have fin : T = (9, 1) := by
              rw [← HT.out, Hd.out, HC.out]; unfold escT escL; simp only [if_neg (show ¬ (c.toNat = 92 ∨ c.toNat = 34) by omega), if_neg h110, if_pos h116]; rfl
            subst fin
            go_enter Tryd.func65, Tryd.ntmps65
            go_wp2
            go_ret2
            exact ⟨rfl, Below.refl _ _⟩
          · skip
            have n1 : ¬ (c.toNat = 92 ∨ c.toNat = 34) := by omega
            have q1 : ((c.toNat : Int) == 92) = false := by rw [beq_eq_false_iff_ne]; omega
            have q2 : ((c.toNat : Int) == 34) = false := by rw [beq_eq_false_iff_ne]; omega
            have q3 : ((c.toNat : Int) == 110) = false := by rw [beq_eq_false_iff_ne]; omega
            have q4 : ((c.toNat : Int) == 116) = false := by rw [beq_eq_false_iff_ne]; omega
            by_cases h120 : c.toNat = 120
            · have q5 : ((c.toNat : Int) == 120) = true := by rw [beq_iff_eq]; omega
              by_cases h3 : 2 < s.size
              · have hd3 := data_cons3 s h3
                have hg1 := get_lt s 1 (by omega)
                have hg2 := get_lt s 2 h3
                obtain ⟨x, hx⟩ : ∃ x, s.get! 1 = x := ⟨_, rfl⟩
                obtain ⟨y, hy⟩ : ∃ y, s.get! 2 = y := ⟨_, rfl⟩
                have fin : T = match hexV x, hexV y with | some x, some y => (((UInt8.ofNat (16 * x + y)).toNat : Int), 3) | _, _ => (0, 0) := by
                  rw [← HT.out, hd3, HC.out, hx, hy]; unfold escT escL; simp only [if_neg n1, if_neg h110, if_neg h116, if_pos h120]
                  cases hexV x <;> cases hexV y <;> rfl
                rw [hx] at hg1
                rw [hy] at hg2
                have h3' : (2 : Int) < s.size := by omega
                have h3'' : (1 : Int) < s.size := by omega
                clear hd3 hx hy n1 h92 h34 h110 h116 h120
                cases hX : hexV x with
                | none =>
                  rw [hX] at fin
                  simp only [] at fin
                  subst fin
                  have sx := sixZ_none hX
                  clear hX
                  go_enter Tryd.func65, Tryd.ntmps65
                  go_wp2
                  go_quiet ((go_at_call 36; exact Calls.quiet_of_same (IndexHex _ _)))
                  go_wp2
                  go_ret2
                  exact ⟨rfl, below_drewN' (Below.refl _ _) _⟩
                | some vx =>
                  have lx := hexV_lt hX
                  have sx := sixZ_some hX
                  rw [hX] at fin
                  cases hY : hexV y with
                  | none =>
                    rw [hY] at fin
                    simp only [] at fin
                    subst fin
                    have sy := sixZ_none hY
                    clear hX hY
                    go_enter Tryd.func65, Tryd.ntmps65
                    go_wp2
                    go_quiet ((go_at_call 36; exact Calls.quiet_of_same (IndexHex _ _)))
                    go_wp2
                    go_ret2
                    exact ⟨rfl, below_drewN' (Below.refl _ _) _⟩
                  | some vy =>
                    have ly := hexV_lt hY
                    have sy := sixZ_some hY
                    rw [hY] at fin
                    simp only [] at fin
                    subst fin
                    clear hX hY
                    go_enter Tryd.func65, Tryd.ntmps65
                    go_wp2
                    go_quiet ((go_at_call 36; exact Calls.quiet_of_same (IndexHex _ _)))
                    go_wp2
                    go_ret2
                    exact ⟨by rw [← or_hex vx vy lx ly]; rfl, below_drewN' (Below.refl _ _) _⟩
              · have fin : T = (0, 0) := by
                  rw [← HT.out, Hd.out, HC.out]; unfold escT escL; simp only [if_neg n1, if_neg h110, if_neg h116, if_pos h120]
                  match hh : s.data.toList.drop 1 with
                  | [] => rfl
                  | [_] => rfl
                  | _ :: _ :: _ => have := congrArg List.length hh; rw [List.length_drop, size_data] at this; simp at this; omega
                subst fin
                have h3' : s.size ≤ 2 := by omega
                clear h3 n1 h92 h34 h110 h116 h120
                go_enter Tryd.func65, Tryd.ntmps65
                go_wp2
                go_ret2
                exact ⟨rfl, Below.refl _ _⟩
            · have q5 : ((c.toNat : Int) == 120) = false := by rw [beq_eq_false_iff_ne]; omega
              have fin : T = (0, 0) := by
                rw [← HT.out, Hd.out, HC.out]; unfold escT escL; simp only [if_neg n1, if_neg h110, if_neg h116, if_neg h120]
              subst fin
              clear n1 h92 h34 h110 h116 h120
              go_enter Tryd.func65, Tryd.ntmps65
              go_wp2
              go_ret2
              exact ⟨rfl, Below.refl _ _⟩
end Glw
end Go.Proofs.YtelejpajnemmfaaDoor
