/-
  DERIVED. LAYER 19 (value), the reference's, walked: are two plain values the same.
-/
import Derived.Test.YthamcklkmchkiaaDoorShOneWalk
import Derived.RegionTactic
import Derived.BigRegion
namespace Go.Proofs.YthamcklkmchkiaaDoor
open Go.RowKit
namespace Shw
open Gl Glw Sh

def SamePost (L M : List VN) (w : World) (e : Ending) (w' : World) : Prop := ∃ bo : Bool, e = .returned (.bool bo) ∧ (bo = true ↔ L.map er = M.map er) ∧ Below w.heap.size w w'
theorem same_false {L M : List VN} {w w' : World} (h : ¬ L.map er = M.map er) (hb : Below w.heap.size w w') : SamePost L M w (.returned (.bool false)) w' := ⟨false, rfl, ⟨fun h => by simp at h, fun h' => absurd h' h⟩, hb⟩
theorem same_true {L M : List VN} {w w' : World} (h : L.map er = M.map er) (hb : Below w.heap.size w w') : SamePost L M w (.returned (.bool true)) w' := ⟨true, rfl, ⟨fun _ => h, fun _ => rfl⟩, hb⟩
theorem er_at {L M : List VN} {k : Nat} {x y : VN} (h : L.map er = M.map er) (hx : L[k]? = some x) (hy : M[k]? = some y) : x.k = y.k ∧ x.lab = y.lab ∧ x.nm = y.nm ∧ x.num = y.num ∧ x.many = y.many := by
  have h1 := congrArg (fun l : List _ => l[k]?) h
  simp only [List.getElem?_map, hx, hy, Option.map_some, Option.some.injEq, er, Prod.mk.injEq] at h1
  exact h1

set_option maxHeartbeats 8000000 in
set_option maxRecDepth 100000 in
theorem Same19 (b off cap b' off' cap' : Nat) (L M : List VN) (w : World) (hR : RdV w b off L) (hR' : RdV w b' off' M) (hL : L.length ≤ 1000) (hT : ∀ n ∈ L, n.tn = 0 ∧ n.un = 0) (hT' : ∀ n ∈ M, n.tn = 0 ∧ n.un = 0) :
    Calls Tryd.prog 18 #[.slice (some ⟨b, off, none⟩) L.length cap, .slice (some ⟨b', off', none⟩) M.length cap'] w (SamePost L M w) := by
  have HR := Lib.hid hR
  have HR' := Lib.hid hR'
  have HT := Lib.hid hT
  have HT' := Lib.hid hT'
  clear hR hR' hT hT'
  by_cases hlen : L.length = M.length
  · rw [← hlen]
    have q : ((L.length : Int) != L.length) = false := by simp
    have HLN := Lib.hid hlen
    clear hlen
    go_enter Tryd.func18, Tryd.ntmps18
    go_wp2_with fail
    go_loopw [5] (fun i wr => ∃ k : Nat, i = .int .i64 k ∧ k ≤ L.length ∧ (∀ j x y, j < k → L[j]? = some x → M[j]? = some y → er x = er y) ∧ Below w.heap.size w wr) (fun i _ => L.length - (intOf i).toNat)
    case atStart => exact ⟨0, rfl, Nat.zero_le _, fun j x y h => by omega, Below.refl _ _⟩
    case round =>
      obtain ⟨k, rfl, hk, hall, hB⟩ := hrel
      have HB := Lib.hid hB
      have HALL := Lib.hid hall
      clear hB hall
      by_cases hlt : k < L.length
      · obtain ⟨x, hxL, a0, a1, a2, a3, a4, a5, a6⟩ := (HR.out.since HR.out.1 HB.out).at_ hlt
        obtain ⟨y, hyM, c0, c1, c2, c3, c4, c5, c6⟩ := (HR'.out.since HR'.out.1 HB.out).at_ (k := k) (by have := HLN.out; omega)
        have t1 := HT.out x (List.mem_of_getElem? hxL)
        have t2 := HT'.out y (List.mem_of_getElem? hyM)
        rw [t1.1] at a5
        rw [t1.2] at a6
        rw [t2.1] at c5
        rw [t2.2] at c6
        have hk0 : (0 : Int) ≤ k := by omega
        have hlt' : (k : Int) < L.length := by omega
        have hb1 : b < wr.heap.size := Nat.lt_of_lt_of_le HR.out.1 HB.out.size
        have hb2 : b' < wr.heap.size := Nat.lt_of_lt_of_le HR'.out.1 HB.out.size
        have hsz : w.heap.size ≤ wr.heap.size := HB.out.size
        have HXL := Lib.hid hxL
        have HYM := Lib.hid hyM
        clear t1 t2
        by_cases xk : x.k = y.k
        · have qk : (x.k != y.k) = false := by rw [bne_eq_false_iff_eq]; exact xk
          have Kk := Lib.hid xk
          clear xk
          by_cases xlab : x.lab = y.lab
          · have qlab : (x.lab.toList == y.lab.toList) = true := by rw [xlab]; simp
            have Klab := Lib.hid xlab
            clear xlab
            by_cases xnm : x.nm = y.nm
            · have qnm : (x.nm.toList == y.nm.toList) = true := by rw [xnm]; simp
              have Knm := Lib.hid xnm
              clear xnm
              by_cases xnum : x.num = y.num
              · have qnum : (x.num != y.num) = false := by rw [bne_eq_false_iff_eq]; exact xnum
                have Knum := Lib.hid xnum
                clear xnum
                by_cases xmany : x.many = y.many
                · have qmany : (x.many != y.many) = false := by rw [bne_eq_false_iff_eq]; exact xmany
                  have Kmany := Lib.hid xmany
                  clear xmany
                  have HEQ := Lib.hid (show er x = er y from by unfold er; rw [Kk.out, Klab.out, Knm.out, Knum.out, Kmany.out])
                  go_wp2_with fail
                  go_region
                  all_goals (go_wp2_with fail)
                  all_goals
                    refine (Same03_none _ _ _ _ _).mono ?_
                    rintro e w7 ⟨rfl, q7⟩
                    dsimp only
                    have e1 := q7.cell (p := ⟨wr.heap.size, 6, none⟩) (by simp; try omega)
                    have e2 := q7.cell (p := ⟨wr.heap.size + 1, 6, none⟩) (by simp; try omega)
                    have hs7 : wr.heap.size + 2 ≤ w7.heap.size := by have := q7.size; simp at this; omega
                    have hb7 : Below wr.heap.size wr w7 := by
                      refine Below.trans ?_ (q7.mono (by simp; try omega))
                      repeat' (first | exact Below.refl _ _ | refine Below.drew ?_ | refine Below.alloc ?_ ?_ _)
                      all_goals first | omega | (simp; done) | (simp; omega)
                    have HB7 := Lib.hid (HB.out.trans (hb7.mono hsz))
                    clear q7 hb7
                    go_wp2_with fail
                    refine (Same03_none _ _ _ _ _).mono ?_
                    rintro e w8 ⟨rfl, q8⟩
                    dsimp only
                    have HB8 := Lib.hid (HB7.out.trans (q8.mono HB7.out.size))
                    clear q8 e1 e2
                    go_wp2_with fail
                    refine ⟨⟨k + 1, by simp, by omega, fun j x' y' hj hx hy => ?_, HB8.out⟩, by simp [intOf]; omega⟩
                    by_cases e : j = k
                    · subst e
                      rw [HXL.out] at hx
                      rw [HYM.out] at hy
                      obtain rfl := Option.some.inj hx
                      obtain rfl := Option.some.inj hy
                      exact HEQ.out
                    · exact HALL.out j x' y' (by omega) hx hy
                · have qmany : (x.many != y.many) = true := by rw [bne_iff_ne]; exact xmany
                  have hno : ¬ L.map er = M.map er := fun h => xmany (er_at h hxL hyM).2.2.2.2
                  have HNO := Lib.hid hno
                  clear xmany hno
                  go_wp2_with fail
                  go_region
                  all_goals (go_wp2_with fail)
                  all_goals (go_ret; refine same_false HNO.out ?_)
                  all_goals repeat' (first | exact HB.out | refine Below.drew ?_ | refine Below.alloc ?_ ?_ _ | refine Below.setCell ?_ ?_ _)
                  all_goals first | omega | (simp; done) | (simp; omega)
              · have qnum : (x.num != y.num) = true := by rw [bne_iff_ne]; exact xnum
                have hno : ¬ L.map er = M.map er := fun h => xnum (er_at h hxL hyM).2.2.2.1
                have HNO := Lib.hid hno
                clear xnum hno
                go_wp2_with fail
                go_region
                all_goals (go_wp2_with fail)
                all_goals (go_ret; refine same_false HNO.out ?_)
                all_goals repeat' (first | exact HB.out | refine Below.drew ?_ | refine Below.alloc ?_ ?_ _ | refine Below.setCell ?_ ?_ _)
                all_goals first | omega | (simp; done) | (simp; omega)
            · have qnm : (x.nm.toList == y.nm.toList) = false := by rw [beq_eq_false_iff_ne, toList_data, toList_data]; exact fun h => xnm (data_inj h)
              have hno : ¬ L.map er = M.map er := fun h => xnm (er_at h hxL hyM).2.2.1
              have HNO := Lib.hid hno
              clear xnm hno
              go_wp2_with fail
              go_region
              all_goals (go_wp2_with fail)
              all_goals (go_ret; refine same_false HNO.out ?_)
              all_goals repeat' (first | exact HB.out | refine Below.drew ?_ | refine Below.alloc ?_ ?_ _ | refine Below.setCell ?_ ?_ _)
              all_goals first | omega | (simp; done) | (simp; omega)
          · have qlab : (x.lab.toList == y.lab.toList) = false := by rw [beq_eq_false_iff_ne, toList_data, toList_data]; exact fun h => xlab (data_inj h)
            have hno : ¬ L.map er = M.map er := fun h => xlab (er_at h hxL hyM).2.1
            have HNO := Lib.hid hno
            clear xlab hno
            go_wp2_with fail
            go_region
            all_goals (go_wp2_with fail)
            all_goals (go_ret; refine same_false HNO.out ?_)
            all_goals repeat' (first | exact HB.out | refine Below.drew ?_ | refine Below.alloc ?_ ?_ _ | refine Below.setCell ?_ ?_ _)
            all_goals first | omega | (simp; done) | (simp; omega)
        · have qk : (x.k != y.k) = true := by rw [bne_iff_ne]; exact xk
          have hno : ¬ L.map er = M.map er := fun h => xk (er_at h hxL hyM).1
          have HNO := Lib.hid hno
          clear xk hno
          go_wp2_with fail
          go_region
          all_goals (go_wp2_with fail)
          all_goals (go_ret; refine same_false HNO.out ?_)
          all_goals repeat' (first | exact HB.out | refine Below.drew ?_ | refine Below.alloc ?_ ?_ _ | refine Below.setCell ?_ ?_ _)
          all_goals first | omega | (simp; done) | (simp; omega)
      · obtain rfl : k = L.length := by omega
        go_wp2_with fail
        go_ret
        refine same_true (List.ext_getElem? fun i => ?_) HB.out
        rw [List.getElem?_map, List.getElem?_map]
        rcases Nat.lt_or_ge i L.length with h | h
        · have h' : i < M.length := by rw [← HLN.out]; exact h
          rw [List.getElem?_eq_getElem h, List.getElem?_eq_getElem h']
          exact congrArg some (HALL.out i _ _ h (List.getElem?_eq_getElem h) (List.getElem?_eq_getElem h'))
        · rw [List.getElem?_eq_none h, List.getElem?_eq_none (by rw [← HLN.out]; exact h)]
  · have q : ((L.length : Int) != M.length) = true := by rw [bne_iff_ne]; omega
    have HNO := Lib.hid (show ¬ L.map er = M.map er from fun h => hlen (by have := congrArg List.length h; simpa using this))
    clear hlen
    go_enter Tryd.func18, Tryd.ntmps18
    go_wp2_with fail
    go_ret
    exact same_false HNO.out (Below.refl _ _)
end Shw
end Go.Proofs.YthamcklkmchkiaaDoor
