/-
  DERIVED. LAYER 3 (ty), the reference's, walked: how deep a row of nodes is (that it answers).
-/
import Derived.Test.YthamcklkmchkiaaDoorShRef03c
namespace Go.Proofs.YthamcklkmchkiaaDoor
open Go.RowKit
namespace Shw
open Gl Glw Sh

/-- A slice of numbers of the call's own, behind an address. -/
def Nums (w : World) (base : Nat) (v : Go.Value) : Prop := ∃ (g n cap : Nat) (xs : List Int), v = .slice (some ⟨g, 0, none⟩) n cap ∧ n ≤ 100 ∧ xs.length = n ∧ (∀ x ∈ xs, -9223372036854775808 ≤ x ∧ x ≤ 9223372036854775807) ∧ w.ownsRow base 3 1 (.slice (some ⟨g, 0, none⟩) n cap) n (xs.map fun x => Go.Value.int .i64 x)
def lenV : Go.Value → Nat
  | .slice _ n _ => n
  | _ => 0
theorem own_cut {w : World} {base e g n m cap : Nat} {xs : List Go.Value} (h : w.ownsRow base e 1 (.slice (some ⟨g, 0, none⟩) n cap) n xs) (hm : m ≤ n) : w.ownsRow base e 1 (.slice (some ⟨g, 0, none⟩) m cap) m (xs.take m) := by
  refine ⟨by rw [List.length_take, h.1]; omega, ?_⟩
  rcases h.2 with ⟨h', _⟩ | ⟨g', cap', cur, h', hb, hg, hnc, hcm, hcs, ht⟩
  · simp at h'
  · simp only [Value.slice.injEq, Option.some.injEq, Addr.mk.injEq, and_true, true_and] at h'
    obtain ⟨rfl, rfl⟩ := h'
    exact .inr ⟨g, cap, cur, rfl, hb, hg, by omega, hcm, hcs, by rw [← ht, List.take_take]; congr 1; omega⟩

theorem own_cap {w : World} {base e size g n cap : Nat} {xs : List Go.Value} (h : w.ownsRow base e size (.slice (some ⟨g, 0, none⟩) n cap) n xs) : n ≤ cap := by
  rcases h.2 with ⟨h', _⟩ | ⟨g', cap', cur, h', _, _, hc, _⟩
  · simp at h'
  · simp only [Value.slice.injEq, Option.some.injEq, Addr.mk.injEq, and_true, true_and] at h'
    omega
theorem Nums.cut {w : World} {base g n cap : Nat} {xs : List Int} (hn : n ≤ 100) (hx : xs.length = n) (hb : ∀ x ∈ xs, -9223372036854775808 ≤ x ∧ x ≤ 9223372036854775807) (h : w.ownsRow base 3 1 (.slice (some ⟨g, 0, none⟩) n cap) n (xs.map fun x => Go.Value.int .i64 x)) (m : Nat) (hm : m ≤ n) :
    Nums w base (.slice (some ⟨g, 0, none⟩) m cap) :=
  ⟨g, m, cap, xs.take m, rfl, by omega, by rw [List.length_take]; omega, fun x hx => hb x (List.mem_of_mem_take hx), by rw [List.map_take]; exact own_cut h hm⟩
theorem wrap64_b (z : Int) : -9223372036854775808 ≤ wrap64 z ∧ wrap64 z ≤ 9223372036854775807 := by unfold wrap64; omega

set_option maxHeartbeats 4000000 in
set_option maxRecDepth 100000 in
theorem shallow03 (b off cap : Nat) (L : List TN) (w : World) (hRV : RdT w b off L) (hL : L.length ≤ 1000000) (hN : ∀ n ∈ L, 0 ≤ manyT n ∧ manyT n ≤ 50) :
    Calls Tryd.prog 54 #[.slice (some ⟨b, off, none⟩) L.length cap] w fun e w' => ∃ bo : Bool, e = .returned (.bool bo) ∧ Below w.heap.size w w' := by
  obtain ⟨i0, hi, hz0, hz1, hz2⟩ := info_parts infoInt
  have HRV := Lib.hid hRV
  have HI := Lib.hid hi
  have HZ0 := Lib.hid hz0
  have HZ1 := Lib.hid hz1
  have HZ2 := Lib.hid hz2
  have HNN := Lib.hid hN
  have hmy := fun n w => many03 n w
  have HMY := Lib.hid hmy
  clear hRV hi hz0 hz1 hz2 hmy hN
  go_enter Tryd.func54, Tryd.ntmps54
  go_wp2_with fail
  go_loopw [3, 4] (fun o k wr => ∃ k' : Nat, k = .int .i64 k' ∧ k' ≤ L.length ∧ Nums wr w.heap.size o ∧ Below w.heap.size w wr) (fun _ k _ => L.length - (intOf k).toNat)
  case atStart => exact ⟨0, rfl, Nat.zero_le _, ⟨w.heap.size, 0, 0, [], rfl, by omega, rfl, fun x h => by simp at h, World.ownsRow_lit w #[] 0 (Nat.le_refl _) (Nat.zero_le _) rfl⟩, (Below.refl _ _).alloc (Nat.le_refl _) _⟩
  case round =>
    obtain ⟨k, rfl, hk, ⟨g, n, cp, xs, rfl, hn, hxl, hxb, hown⟩, hB⟩ := hrel
    have HB := Lib.hid hB
    have HO := Lib.hid hown
    have HXB := Lib.hid hxb
    have HXL := Lib.hid hxl
    clear hB hown hxb hxl
    by_cases hlt : k < L.length
    · obtain ⟨t, ht, a0, a1, a2⟩ := (HRV.out.since HRV.out.1 HB.out).at_ hlt
      have hk0 : (0 : Int) ≤ k := by omega
      have hlt' : (k : Int) < L.length := by omega
      have hmb := HNN.out t (List.mem_of_getElem? ht)
      clear ht
      by_cases h100 : 100 ≤ n
      · have q1 : decide ((100 : Int) ≤ n) = true := by simp; omega
        go_wp2_with fail
        go_ret
        exact ⟨false, rfl, HB.out⟩
      · have q1 : decide ((100 : Int) ≤ n) = false := by simp; omega
        go_wp2_with fail
        refine (HMY.out t _).mono ?_
        rintro e w1 ⟨rfl, q⟩
        dsimp only
        have hb1 := HB.out.trans (q.mono HB.out.size)
        have own1 := own_keep HO.out (fun k hk => (q.block k (own_lt HO.out hk).2).trans rfl)
        have own2 := own_keep own1 (w' := w1.alloc (.cells #[.int .i64 (manyT t)] 3)) (fun k hk => Below.heap_alloc _ _ _ (own_lt own1 hk).2)
        have hs1 : (w1.alloc (.cells #[.int .i64 (manyT t)] 3)).heap.size = w1.heap.size + 1 := by simp
        have hb2 : Below w.heap.size w (w1.alloc (.cells #[.int .i64 (manyT t)] 3)) := hb1.alloc hb1.size _
        have hbw : w.heap.size ≤ w1.heap.size := hb1.size
        have OWN := Lib.hid own2
        have HS1 := Lib.hid hs1
        have HB2 := Lib.hid hb2
        clear own1 own2 hs1 hb2 hb1 q a0 a1 a2
        go_wp2_with (at_builtin; refine wpList_append_lies _ rfl (.tmp 15) (.tmp 21) 43 rfl w.heap.size 3 i0 _ 1 8 Tryd.underlying43 HI.out HZ0.out HZ1.out HZ2.out rfl (by decide) (.slice (some ⟨g, 0, none⟩) n cp) n _ rfl OWN.out ⟨w1.heap.size, 0, none⟩ 1 1 [.int .i64 (manyT t)] rfl rfl (cell_one_new _ _ _) (by intro u hu; rw [List.mem_singleton.1 hu]; rfl) (by decide) (by unfold maxLen; omega) (by omega) (by rw [HS1.out]; omega) _ HS1.out ?_; intro g2 cap2 w4 hown2 hgr2 hat2 hlt2; have HO2 := Lib.hid hown2; have HG2 := Lib.hid hgr2; clear hown2 hgr2 hat2)
        have hb4 : Below w.heap.size w w4 := HB2.out.grown HG2.out (by rw [HS1.out]; omega) (fun k hk => (own_lt OWN.out hk).1)
        have hown4 : w4.ownsRow w.heap.size 3 1 (.slice (some ⟨g2, 0, none⟩) (n + 1) cap2) (n + 1) ((xs ++ [manyT t]).map fun x => Go.Value.int .i64 x) := by
          rw [List.map_append]; exact HO2.out
        have hnums : Nums w4 w.heap.size (.slice (some ⟨g2, 0, none⟩) (n + 1) cap2) := ⟨g2, n + 1, cap2, _, rfl, by omega, by rw [List.length_append, HXL.out]; rfl, fun x hx => by
          rcases List.mem_append.1 hx with hx | hx
          · exact HXB.out x hx
          · rw [List.mem_singleton.1 hx]; omega, hown4⟩
        have HNU := Lib.hid hnums
        have HB4 := Lib.hid hb4
        clear hb4 hown4 hnums
        go_loopw [3] (fun o wr => Nums wr w.heap.size o ∧ Below w.heap.size w wr) (fun o _ => lenV o)
        case atStart => exact ⟨HNU.out, HB4.out⟩
        case round =>
          obtain ⟨⟨g, n, cp, xs, rfl, hn, hxl, hxb, hown⟩, hB⟩ := hrel
          have HB := Lib.hid hB
          have HO := Lib.hid hown
          have HXB := Lib.hid hxb
          have HXL := Lib.hid hxl
          clear hB hown hxb hxl
          by_cases hn0 : 0 < n
          · obtain ⟨z, hz⟩ : ∃ z, xs[n - 1]? = some z := ⟨_, List.getElem?_eq_getElem (by rw [HXL.out]; omega)⟩
            have hc : wr.cell? ⟨g, n - 1, none⟩ = some (.int .i64 z) := by
              rw [HO.out.cellAt (n - 1) (by omega), List.getElem?_map, hz]; rfl
            have hn0' : decide ((0 : Int) < n) = true := by simp; omega
            have hcp := own_cap HO.out
            have hs1 : (1 : Int) ≤ n := by omega
            have hs2 : (n : Int) - 1 ≤ cp := by omega
            clear hz
            by_cases hz0 : z = 0
            · have q0 : (z == 0) = true := by rw [beq_iff_eq]; exact hz0
              clear hz0
              by_cases hn1 : 1 < n
              · obtain ⟨y, hy⟩ : ∃ y, xs[n - 1 - 1]? = some y := ⟨_, List.getElem?_eq_getElem (by rw [HXL.out]; omega)⟩
                have hc2 : wr.cell? ⟨g, n - 1 - 1, none⟩ = some (.int .i64 y) := by
                  rw [HO.out.cellAt (n - 1 - 1) (by omega), List.getElem?_map, hy]; rfl
                have hf2 : wr.frozen? ⟨g, n - 1 - 1, none⟩ = false := HO.out.frozenAt _
                have hyb := HXB.out y (List.mem_of_getElem? hy)
                go_wp2
                have hcut := Nums.cut hn HXL.out HXB.out HO.out (n - 1) (by omega)
                obtain ⟨g', m, cp', xs', he, hm, hxl, hxb, hown⟩ := hcut
                simp only [Value.slice.injEq, Option.some.injEq, Addr.mk.injEq, and_true] at he
                obtain ⟨rfl, rfl, rfl⟩ := he
                have hst := hown.stored (n - 1 - 1) (.int .i64 (wrap64 (y - 1)))
                refine ⟨⟨⟨g, n - 1, cp, xs'.set (n - 1 - 1) (wrap64 (y - 1)), rfl, hm, by rw [List.length_set, hxl], fun x hx => ?_, by rw [List.map_set]; exact hst.1⟩, HB.out.setCell (own_lt HO.out (k := g) rfl).1 _⟩, by simp [lenV]; omega⟩
                rcases List.mem_or_eq_of_mem_set hx with hx | rfl
                · exact hxb x hx
                · exact wrap64_b _
              · obtain rfl : n = 1 := by omega
                go_wp2
                exact ⟨⟨Nums.cut hn HXL.out HXB.out HO.out 0 (by omega), HB.out⟩, by simp [lenV]⟩
            · have q0 : (z == 0) = false := by rw [beq_eq_false_iff_ne]; exact hz0
              clear hz0
              go_wp2
              exact ⟨⟨k + 1, by simp, by omega, ⟨g, n, cp, xs, rfl, hn, HXL.out, HXB.out, HO.out⟩, HB.out⟩, by simp [intOf]; omega⟩
          · have hn0' : decide ((0 : Int) < n) = false := by simp; omega
            go_wp2
            exact ⟨⟨k + 1, by simp, by omega, ⟨g, n, cp, xs, rfl, hn, HXL.out, HXB.out, HO.out⟩, HB.out⟩, by simp [intOf]; omega⟩
    · obtain rfl : k = L.length := by omega
      go_wp2_with fail
      go_ret
      exact ⟨true, rfl, HB.out⟩
end Shw
end Go.Proofs.YthamcklkmchkiaaDoor
