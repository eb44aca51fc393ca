/-
  DERIVED. WHAT A BACKSLASH MEANS, WALKED: the reference's 'escaped'. The cases are printed by program (wip/gen_escaped.py).
-/
import Derived.Test.YtelejpajnemmfaaDoorGlEsc
import Derived.Deep.RegionWith
import Derived.IntWalk
import Derived.Laws.IdiomStrings
namespace Go.Proofs.YtelejpajnemmfaaDoor
open Go.RowKit
namespace Glw
open Gl

/-- What 'escaped' hands back. -/
def escB (l : List UInt8) : List UInt8 × Int := match escL l with
  | some (x, m) => ([x], (m : Int) + 1)
  | none => ([], 0)

theorem escB_cons (c : UInt8) (r : List UInt8) : escB (c :: r) = ((
    if c.toNat = 92 ∨ c.toNat = 34 then ([c], 2)
    else if c.toNat = 110 then ([10], 2)
    else if c.toNat = 116 then ([9], 2)
    else if c.toNat = 120 then
      match r with
      | a :: b :: _ => match hexV a, hexV b with
        | some x, some y => ([UInt8.ofNat (16 * x + y)], 4)
        | _, _ => ([], 0)
      | _ => ([], 0)
    else ([], 0)) : List UInt8 × Int) := by
  unfold escB escL
  by_cases h1 : c.toNat = 92 ∨ c.toNat = 34
  · simp only [if_pos h1]; rfl
  · simp only [if_neg h1]
    by_cases h2 : c.toNat = 110
    · simp only [if_pos h2]; rfl
    · simp only [if_neg h2]
      by_cases h3 : c.toNat = 116
      · simp only [if_pos h3]; rfl
      · simp only [if_neg h3]
        by_cases h4 : c.toNat = 120
        · simp only [if_pos h4]
          match r with
          | [] => rfl
          | [_] => rfl
          | a :: b :: _ => simp only []; cases hexV a <;> cases hexV b <;> rfl
        · simp only [if_neg h4]

theorem ret_si {a : ByteArray} {p : List UInt8 × Int} {z : Int} (h : a.data.toList = p.1) (hz : z = p.2) : Ending.returned (.tuple #[.string a, .int .i64 z]) = .returned (.tuple #[.string ⟨p.1.toArray⟩, .int .i64 p.2]) := by rw [of_data h, hz]

theorem sum_hex (x y : Nat) (hx : x < 16) (hy : y < 16) : ((16 * (x : Int) + (y : Int)) % 256).toNat.toUInt8 = UInt8.ofNat (16 * x + y) := by
  have H : ∀ x : Nat, x < 16 → ∀ y : Nat, y < 16 → ((16 * (x : Int) + (y : Int)) % 256).toNat.toUInt8 = UInt8.ofNat (16 * x + y) := by decide +kernel
  exact H x hx y hy

/-- 'string([]byte{z})' behind a draw. -/
theorem conv_one (w : World) (z : Int) (b : UInt8) (h : z = b.toNat) :
    (convert 63 9 (.slice (some ⟨w.heap.size, 0, none⟩) 1 1)).run Tryd.prog (w.alloc (.cells #[.int .u8 z] 5)).drew = .ok (.string ⟨#[b]⟩) (w.alloc (.cells #[.int .u8 z] 5)).drew := by
  subst h
  have := run_convert_bytes_back (P := Tryd.prog) ((w.alloc (.cells #[.int .u8 b.toNat] 5)).drew) 63 9 5 ⟨w.heap.size, 0, none⟩ 1 [b] Tryd.underlying63 Tryd.underlying5 Tryd.underlying9 (fun j hj => by
    have : j = 0 := by simp at hj; omega
    subst this
    show (w.alloc (.cells #[.int .u8 b.toNat] 5)).cell? _ = _
    simp [Addr.add])
  exact this

set_option maxHeartbeats 4000000 in
theorem escaped (s : ByteArray) (k : Nat) (w : World) (hs : s.size ≤ 35184372088832) (hk : k < s.size) :
    Calls Tryd.prog 72 #[.string s, .int .i64 k] w fun e w' => e = .returned (.tuple #[.string ⟨(escB (s.data.toList.drop (k + 1))).1.toArray⟩, .int .i64 (escB (s.data.toList.drop (k + 1))).2]) ∧ Below w.heap.size w w' := by
  by_cases hz : k + 1 < s.size
  · have hd := drop_cons s (k + 1) hz
    obtain ⟨T, hT⟩ : ∃ T, escB (s.data.toList.drop (k + 1)) = T := ⟨_, rfl⟩
    rw [hT]
    have hg := get_lt s (k + 1) hz
    obtain ⟨c, hc⟩ : ∃ c, s.get! (k + 1) = c := ⟨_, rfl⟩
    rw [hc] at hg hd
    rw [hd, escB_cons] at hT
    have hx := ext_data s (k + 1) (k + 2)
    rw [show k + 2 - (k + 1) = 1 from by omega, hd] at hx
    simp only [List.take_succ_cons, List.take_zero] at hx
    have HX := Lib.hid hx
    clear hc hd hx
    have cl := c.toNat_lt
    by_cases h92 : c.toNat = 92
    · rw [if_pos (by omega)] at hT
      subst hT
      have q92 : ((c.toNat : Int) == 92) = true := by rw [beq_iff_eq]; omega
      have q34 : ((c.toNat : Int) == 34) = false := by rw [beq_eq_false_iff_ne]; omega
      have q110 : ((c.toNat : Int) == 110) = false := by rw [beq_eq_false_iff_ne]; omega
      have q116 : ((c.toNat : Int) == 116) = false := by rw [beq_eq_false_iff_ne]; omega
      clear h92
      go_enter Tryd.func72, Tryd.ntmps72
      go_wp2
      go_ret2
      exact ⟨by rw [← (of_data HX.out : s.extract (k + 1) (k + 2) = ⟨#[c]⟩)]; rfl, Below.refl _ _⟩
    · skip
      by_cases h34 : c.toNat = 34
      · rw [if_pos (by omega)] at hT
        subst hT
        have q92 : ((c.toNat : Int) == 92) = false := by rw [beq_eq_false_iff_ne]; omega
        have q34 : ((c.toNat : Int) == 34) = true := by rw [beq_iff_eq]; omega
        have q110 : ((c.toNat : Int) == 110) = false := by rw [beq_eq_false_iff_ne]; omega
        have q116 : ((c.toNat : Int) == 116) = false := by rw [beq_eq_false_iff_ne]; omega
        clear h34
        go_enter Tryd.func72, Tryd.ntmps72
        go_wp2
        go_ret2
        exact ⟨by rw [← (of_data HX.out : s.extract (k + 1) (k + 2) = ⟨#[c]⟩)]; rfl, Below.refl _ _⟩
      · skip
        by_cases h110 : c.toNat = 110
        · rw [if_neg (by omega), if_pos h110] at hT
          subst hT
          have q92 : ((c.toNat : Int) == 92) = false := by rw [beq_eq_false_iff_ne]; omega
          have q34 : ((c.toNat : Int) == 34) = false := by rw [beq_eq_false_iff_ne]; omega
          have q110 : ((c.toNat : Int) == 110) = true := by rw [beq_iff_eq]; omega
          have q116 : ((c.toNat : Int) == 116) = false := by rw [beq_eq_false_iff_ne]; omega
          clear h110
          go_enter Tryd.func72, Tryd.ntmps72
          go_wp2
          go_ret2
          exact ⟨rfl, Below.refl _ _⟩
        · skip
          by_cases h116 : c.toNat = 116
          · rw [if_neg (by omega), if_neg h110, if_pos h116] at hT
            subst hT
            have q92 : ((c.toNat : Int) == 92) = false := by rw [beq_eq_false_iff_ne]; omega
            have q34 : ((c.toNat : Int) == 34) = false := by rw [beq_eq_false_iff_ne]; omega
            have q110 : ((c.toNat : Int) == 110) = false := by rw [beq_eq_false_iff_ne]; omega
            have q116 : ((c.toNat : Int) == 116) = true := by rw [beq_iff_eq]; omega
            clear h116
            go_enter Tryd.func72, Tryd.ntmps72
            go_wp2
            go_ret2
            exact ⟨rfl, Below.refl _ _⟩
          · skip
            rw [if_neg (by omega), if_neg h110, if_neg h116] at hT
            have q1 : ((c.toNat : Int) == 92) = false := by rw [beq_eq_false_iff_ne]; omega
            have q2 : ((c.toNat : Int) == 34) = false := by rw [beq_eq_false_iff_ne]; omega
            have q3 : ((c.toNat : Int) == 110) = false := by rw [beq_eq_false_iff_ne]; omega
            have q4 : ((c.toNat : Int) == 116) = false := by rw [beq_eq_false_iff_ne]; omega
            by_cases h120 : c.toNat = 120
            · have q5 : ((c.toNat : Int) == 120) = true := by rw [beq_iff_eq]; omega
              rw [if_pos h120] at hT
              by_cases h3 : k + 3 < s.size
              · have hg1 := get_lt s (k + 2) (by omega)
                have hg2 := get_lt s (k + 3) h3
                rw [drop_cons s (k + 2) (by omega), drop_cons s (k + 3) h3] at hT
                obtain ⟨x, hx⟩ : ∃ x, s.get! (k + 2) = x := ⟨_, rfl⟩
                obtain ⟨y, hy⟩ : ∃ y, s.get! (k + 3) = y := ⟨_, rfl⟩
                rw [hx] at hg1 hT
                rw [hy] at hg2 hT
                simp only [] at hT
                clear hx hy h92 h34 h110 h116 h120
                have S := sixteen
                have S' := Lib.hid S
                clear S
                cases hX : hexV x with
                | none =>
                  rw [hX] at hT
                  simp only [] at hT
                  subst hT
                  have sx := sixZ_none hX
                  clear hX
                  go_enter Tryd.func72, Tryd.ntmps72
                  go_wp2_with (go_at_call 85; refine (sixteen _ _).mono ?_; rintro e w' ⟨rfl, rfl⟩)
                  go_ret2
                  exact ⟨rfl, Below.refl _ _⟩
                | some vx =>
                  have lx := hexV_lt hX
                  have sx := sixZ_some hX
                  rw [hX] at hT
                  cases hY : hexV y with
                  | none =>
                    rw [hY] at hT
                    simp only [] at hT
                    subst hT
                    have sy := sixZ_none hY
                    clear hX hY
                    go_enter Tryd.func72, Tryd.ntmps72
                    go_wp2_with (go_at_call 85; refine (sixteen _ _).mono ?_; rintro e w' ⟨rfl, rfl⟩)
                    go_ret2
                    exact ⟨rfl, Below.refl _ _⟩
                  | some vy =>
                    have ly := hexV_lt hY
                    have sy := sixZ_some hY
                    rw [hY] at hT
                    simp only [] at hT
                    subst hT
                    clear hX hY
                    go_enter Tryd.func72, Tryd.ntmps72
                    go_wp2_with (go_at_call 85; refine (sixteen _ _).mono ?_; rintro e w' ⟨rfl, rfl⟩)
                    have a2 : IntKind.i64.wrap ((k : Int) + 2) = (k : Int) + 2 := IntWalk.i64_in _ (by omega)
                    have a3 : IntKind.i64.wrap ((k : Int) + 3) = (k : Int) + 3 := IntWalk.i64_in _ (by omega)
                    have b2 : ((k : Int) + 2).toNat = k + 2 := by omega
                    have b3 : ((k : Int) + 3).toNat = k + 3 := by omega
                    have c2 : (0 : Int) ≤ (k : Int) + 2 := by omega
                    have c3 : (0 : Int) ≤ (k : Int) + 3 := by omega
                    have d2 : k + 2 < s.size := by omega
                    have d3 : (k : Int) + 2 < s.size := by omega
                    have d4 : (k : Int) + 3 < s.size := by omega
                    have m1 : IntKind.i64.wrap (16 * (vx : Int)) = 16 * (vx : Int) := IntWalk.i64_in _ (by omega)
                    have m2 : IntKind.i64.wrap (16 * (vx : Int) + (vy : Int)) = 16 * (vx : Int) + (vy : Int) := IntWalk.i64_in _ (by omega)
                    have m3 : IntKind.u8.wrap (16 * (vx : Int) + (vy : Int)) = 16 * (vx : Int) + (vy : Int) := IntWalk.u8_in _ (by omega)
                    have hcv := conv_one w (16 * (vx : Int) + (vy : Int)) (UInt8.ofNat (16 * vx + vy)) (by rw [UInt8.toNat_ofNat']; omega)
                    go_region_with (go_at_call 85; refine (sixteen _ _).mono ?_; rintro e w' ⟨rfl, rfl⟩)
                    all_goals (go_wp2; go_ret2; refine ⟨?_, ((Below.refl _ _).alloc (Nat.le_refl _) _).drew⟩; simp [Act.put])
              · have e0 : T = ([], 0) := by
                  rw [← hT]
                  match hh : s.data.toList.drop (k + 1 + 1) with
                  | [] => rfl
                  | [_] => rfl
                  | _ :: _ :: _ => have := congrArg List.length hh; rw [List.length_drop, size_data] at this; simp at this; omega
                subst e0
                have h3' : s.size ≤ k + 3 := by omega
                clear h3 hT h92 h34 h110 h116 h120
                go_enter Tryd.func72, Tryd.ntmps72
                go_wp2
                go_ret2
                exact ⟨rfl, Below.refl _ _⟩
            · have q5 : ((c.toNat : Int) == 120) = false := by rw [beq_eq_false_iff_ne]; omega
              rw [if_neg h120] at hT
              subst hT
              clear h92 h34 h110 h116 h120
              go_enter Tryd.func72, Tryd.ntmps72
              go_wp2
              go_ret2
              exact ⟨rfl, Below.refl _ _⟩
  · have hle : s.size ≤ k + 1 := by omega
    have hn : s.data.toList.drop (k + 1) = [] := List.drop_eq_nil_of_le (by rw [size_data]; exact hle)
    rw [hn]
    clear hn hz
    go_enter Tryd.func72, Tryd.ntmps72
    go_wp2
    go_ret2
    exact ⟨rfl, Below.refl _ _⟩
end Glw
end Go.Proofs.YtelejpajnemmfaaDoor
