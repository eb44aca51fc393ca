/-
  DERIVED. LAYER 2 (lex): tokens joined, walked.
-/
import Derived.Test.YtelejpajnemmfaaDoorLxT4
namespace Go.Proofs.YtelejpajnemmfaaDoor
open Go.RowKit
namespace Lxw
open Gl Lx Glw

theorem infoStr : (Tryd.prog.info? 9).map (fun i => (i.zero, i.size, i.bytes)) = some (some (.string ⟨#[]⟩), 1, 16) := by kernel_rfl

/-- A slice of texts of the call's own. -/
def Strs (w : World) (B : Nat) (v : Value) (xs : List ByteArray) : Prop := w.ownsRow B 9 1 v xs.length (xs.map Value.string)
theorem Strs.lt {w : World} {B : Nat} {v : Value} {xs : List ByteArray} (h : Strs w B v xs) (g : Nat) (hg : v.ownBlock = some g) : B ≤ g ∧ g < w.heap.size := World.ownsRow.lt h g hg
theorem Strs.below {w w' : World} {B : Nat} {v : Value} {xs : List ByteArray} (h : Strs w B v xs) (hb : Below w.heap.size w w') : Strs w' B v xs :=
  World.ownsRow.kept (row := none) h ⟨hb.os, hb.tape, hb.output, hb.size, fun k hk _ => hb.block k hk⟩ (by cases hv : v.ownBlock <;> simp)
theorem Strs.nil_ (w : World) (B : Nat) : Strs w B (.slice none 0 0) [] := World.ownsRow_nil w B _ 1

theorem join_own (v : Value) (B : Nat) (xs : List ByteArray) (w : World) (hO : Strs w B v xs) (hN : xs.length ≤ 140737488355328) (hlen : (Lib.join (xs.map (·.data.toList)) [32]).length ≤ 140737488355328) :
    Calls Tryd.prog 29 #[v, .string ⟨#[32]⟩] w fun e w' => e = .returned (.string ⟨(Lib.join (xs.map (·.data.toList)) [32]).toArray⟩) ∧ Below w.heap.size w w' := by
  rcases hO.2 with ⟨rfl, h0⟩ | ⟨g, cap, cur, rfl, hB, hg, hn, hm, hcs, htk⟩
  · have hx : xs = [] := List.eq_nil_of_length_eq_zero h0
    subst hx
    refine (Tryd.strings_Join_none none 0 ⟨#[32]⟩ w).mono ?_
    rintro e w' ⟨rfl, rfl⟩
    exact ⟨rfl, Below.refl _ _⟩
  · refine Tryd.strings_Join g 0 cap xs ⟨#[32]⟩ w (fun j x hx => ?_) (Array.getElem?_eq_some_iff.1 hg).1 hN hn hlen
    have hc := World.ownsRow.cells hO (g := g) rfl j (.string x) (by rw [List.getElem?_map, hx]; rfl)
    have hadd : (⟨g, 0, none⟩ : Addr).add j = ⟨g, 0 + j, none⟩ := by unfold Addr.add; split <;> simp_all
    rw [hadd] at hc
    exact hc

/-- In Join's rounds: what is told of the first tokens. -/
def JoinRel (w : World) (l : List T4) (v i : Value) (wr : World) : Prop := ∃ k : Nat, i = .int .i64 k ∧ k ≤ l.length ∧ Below w.heap.size w wr ∧ Strs wr w.heap.size v ((l.dropLast.take k).map str4)

set_option maxHeartbeats 2000000 in
set_option maxRecDepth 100000 in
theorem Join (b off c : Nat) (l : List T4) (w : World) (hR : Rd4 w b off l) (hT : Tabs w) (hn : l.length ≤ 100000) (hx : ∀ t ∈ l, t.x.size ≤ 17592186044416) (hj : (join4 l).length ≤ 140737488355328) :
    Calls Tryd.prog 16 #[.slice (some ⟨b, off, none⟩) l.length c] w fun e w' => e = .returned (.string ⟨(join4 l).toArray⟩) ∧ Below w.heap.size w w' := by
  obtain ⟨i0, hi, hz0, hz1, hz2⟩ := info_parts infoStr
  have HI := Lib.hid hi
  have HZ0 := Lib.hid hz0
  have HZ1 := Lib.hid hz1
  have HZ2 := Lib.hid hz2
  have HR := Lib.hid hR
  have HT := Lib.hid hT
  have HX := Lib.hid hx
  clear hi hz0 hz1 hz2 hR hT hx
  go_enter Tryd.func16, Tryd.ntmps16
  go_wp2
  go_loopw [3, 8] (fun v i wr => JoinRel w l v i wr) (fun _ i _ => l.length - (intOf i).toNat)
  case atStart => exact ⟨0, rfl, Nat.zero_le _, Below.refl _ _, Strs.nil_ _ _⟩
  case round =>
    obtain ⟨k, rfl, hk, hB, hS⟩ := hrel
    have HB := Lib.hid hB
    have HS := Lib.hid hS
    have hbw := hB.size
    have HRr := Lib.hid (HR.out.since HR.out.1 hB)
    clear hB hS
    by_cases hlt : k < l.length
    · obtain ⟨t, ht⟩ : ∃ t, l[k]? = some t := ⟨l[k], List.getElem?_eq_getElem hlt⟩
      obtain ⟨e0, e1, e2, e3⟩ := HRr.out.2 k t ht
      have hlt' : (k : Int) < l.length := by omega
      have hk0 : (0 : Int) ≤ k := by omega
      have hsz := HX.out t (List.mem_of_getElem? ht)
      have HTK := Lib.hid ht
      clear ht
      by_cases hlast : k + 1 = l.length
      · have q1 : ((k : Int) == (l.length : Int) - 1) = true := by rw [beq_iff_eq]; omega
        have hsame : l.dropLast.take (k + 1) = l.dropLast.take k := by
          rw [List.take_of_length_le (by rw [List.length_dropLast]; omega), List.take_of_length_le (by rw [List.length_dropLast]; omega)]
        have HSM := Lib.hid hsame
        have hl1 : (1 : Int) ≤ l.length := by omega
        clear hsame hlast
        go_wp2
        refine ⟨⟨k + 1, by simp, by omega, HB.out.alloc hbw _, ?_⟩, by simp [intOf]; omega⟩
        rw [HSM.out]
        exact HS.out.below ((Below.refl _ _).alloc (Nat.le_refl _) _)
      · have q1 : ((k : Int) == (l.length : Int) - 1) = false := by rw [beq_eq_false_iff_ne]; omega
        have hl1 : (1 : Int) ≤ l.length := by omega
        have hdl : l.dropLast[k]? = some t := by rw [List.getElem?_dropLast, if_pos (by omega)]; exact HTK.out
        have hlk : (l.dropLast.take k).length = k := by rw [List.length_take, List.length_dropLast]; omega
        have hmore : (l.dropLast.take (k + 1)).map str4 = (l.dropLast.take k).map str4 ++ [str4 t] := by rw [List.take_add_one, hdl]; simp
        have HLK := Lib.hid hlk
        have HMORE := Lib.hid hmore
        have B1 : Below wr.heap.size wr (wr.alloc (.cells #[.int .i64 t.k, .string t.x, .int .i64 t.lo, .int .i64 t.hi] 31)) := (Below.refl _ _).alloc (Nat.le_refl _) _
        have HB1 := Lib.hid B1
        clear hdl hlk hmore hlast B1
        by_cases h4 : t.k = 4
        · have q4 : (t.k == 4) = true := by rw [beq_iff_eq]; exact h4
          have hs4 : str4 t = ⟨(quoteL t.x.data.toList).toArray⟩ := by unfold str4; rw [if_pos h4]
          have HS4 := Lib.hid hs4
          clear hs4 h4
          go_wp2_with fail
          refine (Quote t.x _ (Utf8Tabs_below HT.out (HB.out.trans (HB1.out.mono hbw))) hsz).mono ?_
          rintro e w2 ⟨rfl, b2⟩
          have B2 := Lib.hid (HB.out.trans ((HB1.out.trans (b2.mono HB1.out.size)).mono hbw))
          have S2 := Lib.hid (HS.out.below (HB1.out.trans (b2.mono HB1.out.size)))
          clear b2
          rw [← HS4.out]
          obtain ⟨y, hy⟩ : ∃ y, str4 t = y := ⟨_, rfl⟩
          rw [hy] at HMORE ⊢
          clear hy HS4 HB1 e0 e1 e2 e3
          have hbw2 := B2.out.size
          have S3 : Strs (w2.alloc (.cells #[.string y] 9)) w.heap.size u3 ((l.dropLast.take k).map str4) := S2.out.below ((Below.refl _ _).alloc (Nat.le_refl _) _)
          have HS3 := Lib.hid S3
          clear S3
          dsimp only
          go_wp2_with (at_builtin; refine wpList_append_own_at _ rfl (.tmp 28) (.tmp 32) 42 rfl w.heap.size 9 i0 _ 1 16 Tryd.underlying42 HI.out HZ0.out HZ1.out HZ2.out rfl (by decide) u3 _ _ rfl HS3.out ⟨w2.heap.size, 0, none⟩ 1 1 [.string y] rfl rfl (cell_one_new _ _ _) (by intro u hu; rw [List.mem_singleton.1 hu]; rfl) (by rw [List.length_map, HLK.out]; unfold maxLen; omega) (by rw [List.length_map, HLK.out]; omega) (by simp; omega) ?_; intro v' w3 hown hgrow _ hat; have HOWN := Lib.hid hown; have HGR := Lib.hid hgrow; clear hown hgrow hat)
          refine ⟨⟨k + 1, by simp, by omega, Below.of_grown (B2.out.alloc hbw2 _) HGR.out (by simp; omega) (fun g hg => (HS3.out.lt g hg).1), ?_⟩, by simp [intOf]; omega⟩
          unfold Strs
          rw [HMORE.out, List.length_append, List.map_append]
          exact HOWN.out
        · have q4 : (t.k == 4) = false := by rw [beq_eq_false_iff_ne]; exact h4
          have hs4 : str4 t = t.x := by unfold str4; rw [if_neg h4]
          rw [hs4] at HMORE
          have B2 := Lib.hid (HB.out.alloc hbw (.cells #[.int .i64 t.k, .string t.x, .int .i64 t.lo, .int .i64 t.hi] 31))
          have S3 : Strs ((wr.alloc (.cells #[.int .i64 t.k, .string t.x, .int .i64 t.lo, .int .i64 t.hi] 31)).alloc (.cells #[.string t.x] 9)) w.heap.size u3 ((l.dropLast.take k).map str4) := (HS.out.below HB1.out).below ((Below.refl _ _).alloc (Nat.le_refl _) _)
          have HS3 := Lib.hid S3
          have news : ∀ j u, ([.string t.x] : List Value)[j]? = some u → ((wr.alloc (.cells #[.int .i64 t.k, .string t.x, .int .i64 t.lo, .int .i64 t.hi] 31)).alloc (.cells #[.string t.x] 9)).cell? ((⟨wr.heap.size + 1, 0, none⟩ : Addr).add j) = some u := World.news_of_block (heap_alloc2_new wr _ _)
          have NEWS := Lib.hid news
          clear S3 hs4 h4 news
          go_wp2_with (at_builtin; refine wpList_append_own_at _ rfl (.tmp 13) (.tmp 16) 42 rfl w.heap.size 9 i0 _ 1 16 Tryd.underlying42 HI.out HZ0.out HZ1.out HZ2.out rfl (by decide) u3 _ _ rfl HS3.out ⟨wr.heap.size + 1, 0, none⟩ 1 1 [.string t.x] rfl rfl NEWS.out (by intro u hu; rw [List.mem_singleton.1 hu]; rfl) (by rw [List.length_map, HLK.out]; unfold maxLen; omega) (by rw [List.length_map, HLK.out]; omega) (by simp; omega) ?_; intro v' w3 hown hgrow _ hat; have HOWN := Lib.hid hown; have HGR := Lib.hid hgrow; clear hown hgrow hat)
          refine ⟨⟨k + 1, by simp, by omega, Below.of_grown (B2.out.alloc (by simp; omega) _) HGR.out (by simp; omega) (fun g hg => (HS3.out.lt g hg).1), ?_⟩, by simp [intOf]; omega⟩
          unfold Strs
          rw [HMORE.out, List.length_append, List.map_append]
          exact HOWN.out
    · obtain rfl : k = l.length := by omega
      have hall : l.dropLast.take l.length = l.dropLast := List.take_of_length_le (by rw [List.length_dropLast]; omega)
      rw [hall] at HS
      have HJ := Lib.hid hj
      clear hall hj
      go_wp2_with fail
      refine (join_own u3 w.heap.size _ _ HS.out (by rw [List.length_map, List.length_dropLast]; omega) HJ.out).mono ?_
      rintro e w2 ⟨rfl, b2⟩
      dsimp only
      go_wp2
      go_ret
      exact ⟨rfl, HB.out.trans (b2.mono hbw)⟩
end Lxw
end Go.Proofs.YtelejpajnemmfaaDoor
