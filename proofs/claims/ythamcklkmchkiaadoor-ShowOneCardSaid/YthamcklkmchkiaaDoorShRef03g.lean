/-
  DERIVED. LAYER 3 (ty), the reference's, walked: are types the same (that it answers, and yes of two empty ones).
-/
import Derived.Test.YthamcklkmchkiaaDoorShRef03f
import Derived.RegionTactic
import Derived.BigRegion
namespace Go.Proofs.YthamcklkmchkiaaDoor
open Go.RowKit
namespace Shw
open Gl Glw Sh

set_option maxHeartbeats 1000000 in
set_option maxRecDepth 100000 in
theorem Same03_len (A B : Option Addr) (m n c d : Nat) (hmn : m ≠ n) (w : World) : Calls Tryd.prog 33 #[.slice A m c, .slice B n d] w fun e w' => e = .returned (.bool false) ∧ Below w.heap.size w w' := by
  have q : ((m : Int) != n) = true := by rw [bne_iff_ne]; omega
  clear hmn
  go_enter Tryd.func33, Tryd.ntmps33
  go_wp2_with fail
  go_ret
  exact ⟨rfl, Below.refl _ _⟩
set_option maxHeartbeats 1000000 in
set_option maxRecDepth 100000 in
theorem Same03_none (A B : Option Addr) (c d : Nat) (w : World) : Calls Tryd.prog 33 #[.slice A 0 c, .slice B 0 d] w fun e w' => e = .returned (.bool true) ∧ Below w.heap.size w w' := by
  go_enter Tryd.func33, Tryd.ntmps33
  go_wp2_with fail
  refine wp_loop_rounds 1 ?_
  rw [rounds_succ]
  go_wp2_with fail
  go_ret
  exact ⟨rfl, Below.refl _ _⟩

set_option maxHeartbeats 4000000 in
set_option maxRecDepth 100000 in
theorem Same03 (b off cap b' off' cap' : Nat) (L M : List TN) (hlen : L.length = M.length) (w : World) (hR : RdT w b off L) (hR' : RdT w b' off' M) (hL : L.length ≤ 1000000) :
    Calls Tryd.prog 33 #[.slice (some ⟨b, off, none⟩) L.length cap, .slice (some ⟨b', off', none⟩) M.length cap'] w fun e w' => ∃ bo : Bool, e = .returned (.bool bo) ∧ Below w.heap.size w w' := by
  rw [← hlen]
  have HR := Lib.hid hR
  have HR' := Lib.hid hR'
  have HLN := Lib.hid hlen
  have q : ((L.length : Int) != L.length) = false := by simp
  clear hR hR' hlen
  go_enter Tryd.func33, Tryd.ntmps33
  go_wp2_with fail
  go_loopw [5] (fun i wr => ∃ k : Nat, i = .int .i64 k ∧ k ≤ L.length ∧ Below w.heap.size w wr) (fun i _ => L.length - (intOf i).toNat)
  case atStart => exact ⟨0, rfl, Nat.zero_le _, Below.refl _ _⟩
  case round =>
    obtain ⟨k, rfl, hk, hB⟩ := hrel
    have HB := Lib.hid hB
    clear hB
    by_cases hlt : k < L.length
    · obtain ⟨x, _, a0, a1, a2⟩ := (HR.out.since HR.out.1 HB.out).at_ hlt
      obtain ⟨y, _, c0, c1, c2⟩ := (HR'.out.since HR'.out.1 HB.out).at_ (k := k) (by have := HLN.out; omega)
      have hsz : w.heap.size ≤ wr.heap.size := HB.out.size
      have hk0 : (0 : Int) ≤ k := by omega
      have hlt' : (k : Int) < L.length := by omega
      have hb1 : b < wr.heap.size := Nat.lt_of_lt_of_le HR.out.1 HB.out.size
      have hb2 : b' < wr.heap.size := Nat.lt_of_lt_of_le HR'.out.1 HB.out.size
      go_wp2_with fail
      obtain ⟨u, hu⟩ : ∃ u, (x.k == 0) = u := ⟨_, rfl⟩
      obtain ⟨v, hv⟩ : ∃ v, (y.k == 0) = v := ⟨_, rfl⟩
      cases u <;> cases v
      all_goals (go_region)
      all_goals (go_wp2_with fail)
      all_goals first | (go_ret; refine ⟨false, rfl, ?_⟩) | refine ⟨⟨k + 1, by simp, by omega, ?_⟩, by simp [intOf]; omega⟩
      all_goals repeat' (first | exact HB.out | refine Below.drew ?_ | refine Below.alloc ?_ ?_ _ | refine Below.setCell ?_ ?_ _)
      all_goals first | omega | (simp; done) | (simp; omega)
    · obtain rfl : k = L.length := by omega
      go_wp2_with fail
      go_ret
      exact ⟨true, rfl, HB.out⟩
end Shw
end Go.Proofs.YthamcklkmchkiaaDoor
