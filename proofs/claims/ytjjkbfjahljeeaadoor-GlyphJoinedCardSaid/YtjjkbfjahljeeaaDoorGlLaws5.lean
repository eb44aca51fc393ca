/-
  DERIVED. THE STATEMENT GlyphJoined, WALKED.
-/
import Derived.Test.YtjjkbfjahljeeaaDoorGlLaws3
import Derived.Deep.RegionHeld3
import Derived.Deep.RegionWith
import Derived.Deep.DrawnRows
import Derived.IntWalk
namespace Go.Proofs.YtjjkbfjahljeeaaDoor
open Go.RowKit
namespace Glw
open Gl

/-- How far a whole text has been gone through: what is told of it so far. -/
def Told (l : List UInt8) (pos : Nat) (acc : List UInt8) : Prop := ∀ b, bodyL (l ++ b) = acc ++ bodyL (l.drop pos ++ b)
theorem Told.start (l : List UInt8) : Told l 0 [] := fun _ => by simp
theorem Told.next {s : ByteArray} {pos : Nat} {acc : List UInt8} (h : Told s.data.toList pos acc) (hp : pos < s.size) (h0 : longL (s.data.toList.drop pos) ≠ 0) :
    Told s.data.toList (pos + longL (s.data.toList.drop pos)) (acc ++ pieceL (s.get! pos) (longL (s.data.toList.drop pos)) ((s.data.toList.drop pos).take (longL (s.data.toList.drop pos)))) := by
  intro b
  have hd := drop_cons s pos hp
  have e : bodyL (s.data.toList.drop pos ++ b) = bodyL (s.get! pos :: s.data.toList.drop (pos + 1) ++ b) := by rw [hd]
  rw [h b, e, body_whole _ _ _ (by rw [← hd]; exact h0), ← hd, List.drop_drop, List.append_assoc]
theorem Told.done {s : ByteArray} {pos : Nat} {acc : List UInt8} (h : Told s.data.toList pos acc) (hp : s.size ≤ pos) : bodyL s.data.toList = acc ∧ ∀ b, bodyL (s.data.toList ++ b) = acc ++ bodyL b := by
  have hd : s.data.toList.drop pos = [] := List.drop_eq_nil_of_le (by rw [size_data]; exact hp)
  unfold Told at h
  simp only [hd, List.nil_append] at h
  refine ⟨?_, h⟩
  have := h []
  rwa [List.append_nil, bodyL_nil, List.append_nil] at this

/-- A piece that is told as it is. -/
theorem piece_plain (c : UInt8) (n : Nat) (p : List UInt8) (hn : n ≠ 0) (h : 32 ≤ c.toNat ∧ c.toNat ≠ 127 ∧ c.toNat ≠ 34 ∧ c.toNat ≠ 92) : pieceL c n p = p := by
  unfold pieceL
  rw [if_neg (by omega), if_neg (by omega), if_neg (by omega), if_neg (by omega)]

def JRel (s : ByteArray) (p i : Value) : Prop := ∃ (pos : Nat) (pl : Bool) (acc : List UInt8), i = .int .i64 pos ∧ p = .bool pl ∧ pos ≤ s.size ∧ Told s.data.toList pos acc ∧ (pl = true → acc = s.data.toList.take pos)

theorem JRel_next (s : ByteArray) (pos : Nat) (pl pl' : Bool) (acc : List UInt8) (K : Nat) (v : Value) (hp : pos < s.size) (hK : longL (s.data.toList.drop pos) = K) (h0 : K ≠ 0) (hv : v = .int .i64 ((pos : Int) + K))
    (ht : Told s.data.toList pos acc) (hpl : pl = true → acc = s.data.toList.take pos)
    (hpl' : pl' = true → pl = true ∧ (32 ≤ (s.get! pos).toNat ∧ (s.get! pos).toNat ≠ 127 ∧ (s.get! pos).toNat ≠ 34 ∧ (s.get! pos).toNat ≠ 92)) : JRel s (.bool pl') v := by
  have hn := ht.next hp (by omega)
  have hle := (longL_le (s.data.toList.drop pos)).1
  rw [List.length_drop, size_data] at hle
  rw [hK] at hn hle
  refine ⟨pos + K, pl', _, by rw [hv]; rfl, rfl, by omega, hn, ?_⟩
  intro e
  obtain ⟨e1, e2⟩ := hpl' e
  rw [hpl e1, piece_plain _ _ _ h0 e2, List.take_add]

theorem joined_quote {a b x y : ByteArray} {acc : List UInt8} (h : bodyL a.data.toList = acc ∧ ∀ t, bodyL (a.data.toList ++ t) = acc ++ bodyL t) (hx : IsQuote x a) (hy : IsQuote y b) :
    IsQuote (x.extract 0 (x.size - 1) ++ y.extract 1 y.size) (a ++ b) := by
  have e1 : x.data.toList = 34 :: (acc ++ [34]) := by rw [show x.data.toList = quoteL a.data.toList from hx]; unfold quoteL; rw [h.1]
  have e2 : y.data.toList = 34 :: (bodyL b.data.toList ++ [34]) := hy
  have s1 := size_data x
  rw [e1] at s1
  simp only [List.length_cons, List.length_append, List.length_nil] at s1
  unfold IsQuote
  rw [app_data, ext_data, ext_tail, app_data, e1, e2]
  unfold quoteL
  rw [h.2]
  simp only [List.drop_zero, List.drop_succ_cons, Nat.sub_zero]
  rw [show x.size - 1 = acc.length + 1 from by omega, List.take_succ_cons, List.take_left]
  simp

theorem plain_quote {a x : ByteArray} {acc : List UInt8} (h : bodyL a.data.toList = acc) (hacc : acc = a.data.toList) (hx : IsQuote x a) : (⟨#[34]⟩ ++ a ++ ⟨#[34]⟩ : ByteArray) = x := by
  have e1 : x.data.toList = 34 :: (acc ++ [34]) := by rw [show x.data.toList = quoteL a.data.toList from hx]; unfold quoteL; rw [h]
  rw [of_data (b := x) e1, of_data (b := (⟨#[34]⟩ ++ a ++ ⟨#[34]⟩ : ByteArray)) (l := 34 :: (acc ++ [34]))]
  rw [app_data, app_data, hacc]
  simp

theorem Quote_joined {a b x y : ByteArray} (w : World) (hT : Tabs w) (hs : (a ++ b).size ≤ 17592186044416) (hq : IsQuote (x.extract 0 (x.size - 1) ++ y.extract 1 y.size) (a ++ b)) :
    Calls Tryd.prog 16 #[.string (a ++ b)] w fun e w' => e = .returned (.string (x.extract 0 (x.size - 1) ++ y.extract 1 y.size)) ∧ Below w.heap.size w w' :=
  (Quote_named (a ++ b) w hT hs).mono fun _ _ ⟨q, he, h1, hb⟩ => ⟨by rw [he, h1.same hq], hb⟩

theorem alive_from (w0 w : World) (hT : Tabs w0) (h : Below w0.heap.size w0 w) : Calls Tryd.prog 11 #[] w fun e w' => e = .returned (.bool true) ∧ Below w0.heap.size w0 w' :=
  (alive w (Utf8Tabs_below hT h)).mono fun _ _ ⟨he, hb⟩ => ⟨he, h.trans (hb.mono h.size)⟩
theorem Quote_joined_from {a b x y : ByteArray} (w0 w : World) (hT : Tabs w0) (hs : (a ++ b).size ≤ 17592186044416) (hq : IsQuote (x.extract 0 (x.size - 1) ++ y.extract 1 y.size) (a ++ b)) (h : Below w0.heap.size w0 w) :
    Calls Tryd.prog 16 #[.string (a ++ b)] w fun e w' => e = .returned (.string (x.extract 0 (x.size - 1) ++ y.extract 1 y.size)) ∧ Below w0.heap.size w0 w' :=
  (Quote_joined w (Utf8Tabs_below hT h) hs hq).mono fun _ _ ⟨he, hb⟩ => ⟨he, h.trans (hb.mono h.size)⟩

set_option maxHeartbeats 8000000 in
set_option maxRecDepth 100000 in
theorem law_joined (a b : ByteArray) (w : World) (hT : Tabs w) : Calls Tryd.prog 9 #[.string a, .string b] w fun e w' => e = .returned (.bool true) ∧ Below w.heap.size w w' := by
  have HT := Lib.hid hT
  clear hT
  by_cases h : 1000 < a.size
  · have h' : (1000 : Int) < a.size := by omega
    go_enter Tryd.func9, Tryd.ntmps9
    go_wp2_with (go_at_call 11; refine (alive _ HT.out).mono ?_)
    rintro e w1 ⟨rfl, b1⟩
    go_wp2
    go_ret
    exact ⟨rfl, b1⟩
  · have h' : (a.size : Int) ≤ 1000 := by omega
    by_cases hb : 1000 < b.size
    · have hb' : (1000 : Int) < b.size := by omega
      clear h
      go_enter Tryd.func9, Tryd.ntmps9
      go_wp2_with (go_at_call 11; refine (alive _ HT.out).mono ?_)
      rintro e w1 ⟨rfl, b1⟩
      go_wp2
      go_ret
      exact ⟨rfl, b1⟩
    · have hb' : (b.size : Int) ≤ 1000 := by omega
      have ha1 : a.size ≤ 1000 := by omega
      have hb1 : b.size ≤ 1000 := by omega
      clear h hb
      go_enter Tryd.func9, Tryd.ntmps9
      go_wp2_with fail
      go_loop [5, 6] (fun p i => JRel a p i) (fun _ i => a.size - (intOf i).toNat)
      case atStart => exact ⟨0, true, [], rfl, rfl, by omega, Told.start _, fun _ => rfl⟩
      case round =>
        obtain ⟨pos, pl, acc, rfl, rfl, hle, ht, hpl⟩ := hrel
        by_cases hp : pos < a.size
        · have hL := Long a pos w (by omega) hp
          have hll := (longL_le (a.data.toList.drop pos)).1
          rw [List.length_drop, size_data] at hll
          have Hn := Lib.hid (JRel_next a pos pl)
          obtain ⟨K, hK⟩ : ∃ K, longL (a.data.toList.drop pos) = K := ⟨_, rfl⟩
          rw [hK] at hL hll
          have HK := Lib.hid hK
          have HL := Lib.hid hL
          have Ht := Lib.hid ht
          have Hpl := Lib.hid hpl
          clear hK hL ht hpl
          by_cases hk0 : K = 0
          · subst hk0
            go_wp2_with (first | (go_at_call 22; refine HL.out.mono ?_; rintro e w' ⟨rfl, rfl⟩) | (go_at_call 11; refine (alive _ HT.out).mono ?_))
            rintro e w1 ⟨rfl, b1⟩
            go_wp2
            go_ret
            exact ⟨rfl, b1⟩
          · have hk : ((K : Int) == 0) = false := by rw [beq_eq_false_iff_ne]; omega
            have Hk0 := Lib.hid hk0
            clear hk0
            have hg := get_lt a pos hp
            obtain ⟨c, hc⟩ : ∃ c, a.get! pos = c := ⟨_, rfl⟩
            rw [hc] at hg
            have HC := Lib.hid hc
            clear hc
            have cl := c.toNat_lt
            cases pl with
            | false =>
              go_wp2_with (go_at_call 22; refine HL.out.mono ?_; rintro e w' ⟨rfl, rfl⟩)
              go_round
              case rel => exact Hn.out false _ K _ hp HK.out Hk0.out rfl Ht.out Hpl.out (by intro e; cases e)
              case measure => have := Hk0.out; simp [intOf]; omega
            | true =>
              by_cases c1 : c.toNat < 32
              · have q : (c.toNat : Int) < 32 := by omega
                go_wp2_with (go_at_call 22; refine HL.out.mono ?_; rintro e w' ⟨rfl, rfl⟩)
                go_round
                case rel => exact Hn.out false _ K _ hp HK.out Hk0.out rfl Ht.out Hpl.out (by intro e; cases e)
                case measure => have := Hk0.out; simp [intOf]; omega
              · have q : (32 : Int) ≤ c.toNat := by omega
                by_cases c2 : c.toNat = 127 ∨ c.toNat = 34 ∨ c.toNat = 92
                · rcases c2 with h1 | h1 | h1
                  all_goals
                    have q2 : ((c.toNat : Int) != 127) = decide (c.toNat ≠ 127) := by rw [Bool.eq_iff_iff, bne_iff_ne, decide_eq_true_iff]; omega
                    have q3 : ((c.toNat : Int) != 34) = decide (c.toNat ≠ 34) := by rw [Bool.eq_iff_iff, bne_iff_ne, decide_eq_true_iff]; omega
                    have q4 : ((c.toNat : Int) != 92) = decide (c.toNat ≠ 92) := by rw [Bool.eq_iff_iff, bne_iff_ne, decide_eq_true_iff]; omega
                    rw [h1] at q2 q3 q4
                    go_wp2_with (go_at_call 22; refine HL.out.mono ?_; rintro e w' ⟨rfl, rfl⟩)
                    go_round
                    case rel => exact Hn.out false _ K _ hp HK.out Hk0.out rfl Ht.out Hpl.out (by intro e; cases e)
                    case measure => have := Hk0.out; simp [intOf]; omega
                · have q2 : ((c.toNat : Int) != 127) = true := by rw [bne_iff_ne]; omega
                  have q3 : ((c.toNat : Int) != 34) = true := by rw [bne_iff_ne]; omega
                  have q4 : ((c.toNat : Int) != 92) = true := by rw [bne_iff_ne]; omega
                  have HG : RowKit.Hid (32 ≤ c.toNat ∧ c.toNat ≠ 127 ∧ c.toNat ≠ 34 ∧ c.toNat ≠ 92) := Lib.hid (by omega)
                  clear c1 c2
                  go_wp2_with (go_at_call 22; refine HL.out.mono ?_; rintro e w' ⟨rfl, rfl⟩)
                  go_round
                  case rel => exact Hn.out true _ K _ hp HK.out Hk0.out rfl Ht.out Hpl.out (fun _ => ⟨trivial, by rw [HC.out]; exact HG.out⟩)
                  case measure => have := Hk0.out; simp [intOf]; omega
        · have hge : a.size ≤ pos := by omega
          have hdone := Lib.hid (ht.done hge)
          have hpl2 : pl = true → acc = a.data.toList := fun e => by rw [hpl e, List.take_of_length_le (by rw [size_data]; exact hge)]
          have Hpl2 := Lib.hid hpl2
          have hab : (a ++ b).size ≤ 17592186044416 := by
            have := size_data (a ++ b)
            rw [app_data, List.length_append, size_data, size_data] at this
            omega
          have HAB := Lib.hid hab
          clear ht hpl hpl2 hp hab
          go_wp2_with fail
          refine (Quote_named a w HT.out (by omega)).mono ?_
          rintro e w1 ⟨x, rfl, hx, b1⟩
          have hxs := hx.size
          have hx8 : x.size ≤ 4002 := by omega
          have hx2 : 2 ≤ x.size := hxs.2
          have HX := Lib.hid hx
          clear hx hxs
          go_wp2_with fail
          refine (Quote_named b w1 (Utf8Tabs_below HT.out b1) (by omega)).mono ?_
          rintro e w2 ⟨y, rfl, hy, b2⟩
          have c2 := b1.trans (b2.mono b1.size)
          clear b1 b2
          have hys := hy.size
          have hy8 : y.size ≤ 4002 := by omega
          have hy2 : 2 ≤ y.size := hys.2
          have HJ := Lib.hid (joined_quote hdone.out HX.out hy)
          clear hy hys
          go_wp2_with fail
          have d1 : IntKind.i64.wrap ((x.size : Int) - 1) = (x.size : Int) - 1 := IntWalk.i64_in _ (by omega)
          have d2 : (0 : Int) ≤ (x.size : Int) - 1 := by omega
          have d3 : ((x.size : Int) - 1).toNat = x.size - 1 := by omega
          have d2' : (1 : Int) ≤ x.size := by omega
          have d2'' : (x.size : Int) ≤ (x.size : Int) + 1 := by omega
          have d4 : (x.size : Int) - 1 ≤ x.size := by omega
          have d5 : (1 : Int) ≤ y.size := by omega
          have d6 : (9223372036854775807 < a.size + b.size) = False := by rw [eq_iff_iff, iff_false]; omega
          have d7 : (x.extract 0 (x.size - 1)).size = x.size - 1 := by
            have := size_data (x.extract 0 (x.size - 1))
            rw [ext_data, List.length_take, List.length_drop, size_data] at this
            omega
          have d8 : (y.extract 1 y.size).size = y.size - 1 := Lib.tail_size y 1
          have d10 : (9223372036854775807 < 1 + a.size) = False := by rw [eq_iff_iff, iff_false]; omega
          have d11 : (9223372036854775807 < 1 + a.size + 1) = False := by rw [eq_iff_iff, iff_false]; omega
          have d12 : (⟨#[34]⟩ : ByteArray).size = 1 := rfl
          have d13 : (⟨#[34]⟩ ++ a : ByteArray).size = 1 + a.size := by
            have := size_data (⟨#[34]⟩ ++ a)
            rw [app_data, List.length_append, size_data] at this
            rw [← this]; rfl
          have d9 : (9223372036854775807 < x.size - 1 + (y.size - 1)) = False := by rw [eq_iff_iff, iff_false]; omega
          have c2' := c2.drew
          cases pl with
          | false =>
            -- printed by wip/gen_joined.py
            refine wp_region_held_drew (S := fun wx => Below w.heap.size w wx) (by kernel_rfl) c2' (fun hHeld => ?_)
            refine wpAnyH_ready (rs := [0]) (by kernel_rfl) (by simp) ?_
            refine AllReadyH.cons rfl (fun K hK => ?_) AllReadyH.nil
            go_simp
            go_at_call 11; refine (alive_from w _ HT.out hHeld).mono ?_; rintro e w3 ⟨rfl, b3⟩
            go_wp2_with fail
            refine hK.out _ _ b3 (fun _ => ?_)
            clear hK K
            refine wpAnyH_take (i := 1) (v := ?_) rfl (by kernel_rfl) (by kernel_rfl) (by kernel_rfl) (fun _ _ _ h => h) (Or.inl ⟨by rfl, ?_⟩) (by assumption) ?_
            rotate_left
            · (intro wq hq; clear hq; go_simp; try with_reducible rfl)
            simp only [List.getElem_toArray, List.getElem_cons_succ, List.getElem_cons_zero, Act.put, List.setIfInBounds_toArray, List.set_cons_zero, List.set_cons_succ]
            refine wpAnyH_take (i := 2) (v := ?_) rfl (by kernel_rfl) (by kernel_rfl) (by kernel_rfl) (fun _ _ _ h => h) (Or.inl ⟨by rfl, ?_⟩) (by assumption) ?_
            rotate_left
            · (intro wq hq; clear hq; go_simp; try with_reducible rfl)
            simp only [List.getElem_toArray, List.getElem_cons_succ, List.getElem_cons_zero, Act.put, List.setIfInBounds_toArray, List.set_cons_zero, List.set_cons_succ]
            refine wpAnyH_take (i := 3) (v := ?_) rfl (by kernel_rfl) (by kernel_rfl) (by kernel_rfl) (fun _ _ _ h => h) (Or.inl ⟨by rfl, ?_⟩) (by assumption) ?_
            rotate_left
            · (intro wq hq; clear hq; go_simp; try with_reducible rfl)
            simp only [List.getElem_toArray, List.getElem_cons_succ, List.getElem_cons_zero, Act.put, List.setIfInBounds_toArray, List.set_cons_zero, List.set_cons_succ]
            refine wpAnyH_take (i := 4) (v := ?_) rfl (by kernel_rfl) (by kernel_rfl) (by kernel_rfl) (fun _ _ _ h => h) (Or.inl ⟨by rfl, ?_⟩) (by assumption) ?_
            rotate_left
            · (intro wq hq; clear hq; go_simp; try with_reducible rfl)
            simp only [List.getElem_toArray, List.getElem_cons_succ, List.getElem_cons_zero, Act.put, List.setIfInBounds_toArray, List.set_cons_zero, List.set_cons_succ]
            refine wpAnyH_take (i := 6) (v := ?_) rfl (by kernel_rfl) (by kernel_rfl) (by kernel_rfl) (fun _ _ _ h => h) (Or.inl ⟨by rfl, ?_⟩) (by assumption) ?_
            rotate_left
            · (intro wq hq; clear hq; go_simp; try with_reducible rfl)
            simp only [List.getElem_toArray, List.getElem_cons_succ, List.getElem_cons_zero, Act.put, List.setIfInBounds_toArray, List.set_cons_zero, List.set_cons_succ]
            refine wpAnyH_take (i := 7) (v := ?_) rfl (by kernel_rfl) (by kernel_rfl) (by kernel_rfl) (fun _ _ _ h => h) (Or.inl ⟨by rfl, ?_⟩) (by assumption) ?_
            rotate_left
            · (intro wq hq; clear hq; go_simp; try with_reducible rfl)
            simp only [List.getElem_toArray, List.getElem_cons_succ, List.getElem_cons_zero, Act.put, List.setIfInBounds_toArray, List.set_cons_zero, List.set_cons_succ]
            refine wpAnyH_take (i := 8) (v := ?_) rfl (by kernel_rfl) (by kernel_rfl) (by kernel_rfl) (fun _ _ _ h => h) (Or.inl ⟨by rfl, ?_⟩) (by assumption) ?_
            rotate_left
            · (intro wq hq; clear hq; go_simp; try with_reducible rfl)
            simp only [List.getElem_toArray, List.getElem_cons_succ, List.getElem_cons_zero, Act.put, List.setIfInBounds_toArray, List.set_cons_zero, List.set_cons_succ]
            refine wpAnyH_take (i := 9) (v := ?_) rfl (by kernel_rfl) (by kernel_rfl) (by kernel_rfl) (fun _ _ _ h => h) (Or.inl ⟨by rfl, ?_⟩) (by assumption) ?_
            rotate_left
            · (intro wq hq; clear hq; go_simp; try with_reducible rfl)
            simp only [List.getElem_toArray, List.getElem_cons_succ, List.getElem_cons_zero, Act.put, List.setIfInBounds_toArray, List.set_cons_zero, List.set_cons_succ]
            refine wpAnyH_take (i := 10) (v := ?_) rfl (by kernel_rfl) (by kernel_rfl) (by kernel_rfl) (fun _ _ _ h => h) (Or.inl ⟨by rfl, ?_⟩) (by assumption) ?_
            rotate_left
            · (intro wq hq; clear hq; go_simp; try with_reducible rfl)
            simp only [List.getElem_toArray, List.getElem_cons_succ, List.getElem_cons_zero, Act.put, List.setIfInBounds_toArray, List.set_cons_zero, List.set_cons_succ]
            refine wpAnyH_take (i := 11) (v := ?_) rfl (by kernel_rfl) (by kernel_rfl) (by kernel_rfl) (fun _ _ _ h => h) (Or.inl ⟨by rfl, ?_⟩) (by assumption) ?_
            rotate_left
            · (intro wq hq; clear hq; go_simp; try with_reducible rfl)
            simp only [List.getElem_toArray, List.getElem_cons_succ, List.getElem_cons_zero, Act.put, List.setIfInBounds_toArray, List.set_cons_zero, List.set_cons_succ]
            refine wpAnyH_take (i := 12) (v := ?_) rfl (by kernel_rfl) (by kernel_rfl) (by kernel_rfl) (fun _ _ _ h => h) (Or.inl ⟨by rfl, ?_⟩) (by assumption) ?_
            rotate_left
            · (intro wq hq; clear hq; go_simp; try with_reducible rfl)
            simp only [List.getElem_toArray, List.getElem_cons_succ, List.getElem_cons_zero, Act.put, List.setIfInBounds_toArray, List.set_cons_zero, List.set_cons_succ]
            refine wpAnyH_take (i := 13) (v := ?_) rfl (by kernel_rfl) (by kernel_rfl) (by kernel_rfl) (fun _ _ _ h => h) (Or.inl ⟨by rfl, ?_⟩) (by assumption) ?_
            rotate_left
            · (intro wq hq; clear hq; go_simp; try with_reducible rfl)
            simp only [List.getElem_toArray, List.getElem_cons_succ, List.getElem_cons_zero, Act.put, List.setIfInBounds_toArray, List.set_cons_zero, List.set_cons_succ]
            refine wpAnyH_ready (rs := [5]) (by kernel_rfl) (by simp) ?_
            refine AllReadyH.cons rfl (fun K hK => ?_) AllReadyH.nil
            go_simp
            go_at_call 16; refine (Quote_joined_from w _ HT.out HAB.out HJ.out b3).mono ?_; rintro e w4 ⟨rfl, b4⟩
            go_wp2_with fail
            refine hK.out _ _ b4 (fun _ => ?_)
            clear hK K
            refine wpAnyH_take (i := 14) (v := ?_) rfl (by kernel_rfl) (by kernel_rfl) (by kernel_rfl) (fun _ _ _ h => h) (Or.inl ⟨by rfl, ?_⟩) (by assumption) ?_
            rotate_left
            · (intro wq hq; clear hq; go_simp; try with_reducible rfl)
            simp only [List.getElem_toArray, List.getElem_cons_succ, List.getElem_cons_zero, Act.put, List.setIfInBounds_toArray, List.set_cons_zero, List.set_cons_succ]
            refine wpAnyH_take (i := 15) (v := ?_) rfl (by kernel_rfl) (by kernel_rfl) (by kernel_rfl) (fun _ _ _ h => h) (Or.inl ⟨by rfl, ?_⟩) (by assumption) ?_
            rotate_left
            · (intro wq hq; clear hq; go_simp; try with_reducible rfl)
            simp only [List.getElem_toArray, List.getElem_cons_succ, List.getElem_cons_zero, Act.put, List.setIfInBounds_toArray, List.set_cons_zero, List.set_cons_succ]
            refine wpAnyH_take (i := 16) (v := ?_) rfl (by kernel_rfl) (by kernel_rfl) (by kernel_rfl) (fun _ _ _ h => h) (Or.inl ⟨by rfl, ?_⟩) (by assumption) ?_
            rotate_left
            · (intro wq hq; clear hq; go_simp; try with_reducible rfl)
            simp only [List.getElem_toArray, List.getElem_cons_succ, List.getElem_cons_zero, Act.put, List.setIfInBounds_toArray, List.set_cons_zero, List.set_cons_succ]
            refine wpAnyH_take (i := 17) (v := ?_) rfl (by kernel_rfl) (by kernel_rfl) (by kernel_rfl) (fun _ _ _ h => h) (Or.inl ⟨by rfl, ?_⟩) (by assumption) ?_
            rotate_left
            · (intro wq hq; clear hq; go_simp; try with_reducible rfl)
            simp only [List.getElem_toArray, List.getElem_cons_succ, List.getElem_cons_zero, Act.put, List.setIfInBounds_toArray, List.set_cons_zero, List.set_cons_succ]
            refine wpAnyH_take (i := 18) (v := ?_) rfl (by kernel_rfl) (by kernel_rfl) (by kernel_rfl) (fun _ _ _ h => h) (Or.inl ⟨by rfl, ?_⟩) (by assumption) ?_
            rotate_left
            · (intro wq hq; clear hq; go_simp; try with_reducible rfl)
            simp only [List.getElem_toArray, List.getElem_cons_succ, List.getElem_cons_zero, Act.put, List.setIfInBounds_toArray, List.set_cons_zero, List.set_cons_succ]
            refine wpAnyH_take (i := 19) (v := ?_) rfl (by kernel_rfl) (by kernel_rfl) (by kernel_rfl) (fun _ _ _ h => h) (Or.inl ⟨by rfl, ?_⟩) (by assumption) ?_
            rotate_left
            · (intro wq hq; clear hq; go_simp; try with_reducible rfl)
            simp only [List.getElem_toArray, List.getElem_cons_succ, List.getElem_cons_zero, Act.put, List.setIfInBounds_toArray, List.set_cons_zero, List.set_cons_succ]
            refine wpAnyH_take (i := 20) (v := undef) rfl (by kernel_rfl) (by kernel_rfl) (by kernel_rfl) (fun _ _ _ h => h) (Or.inr ⟨by rfl, rfl⟩) (by assumption) ?_
            simp only [List.getElem_toArray, List.getElem_cons_succ, List.getElem_cons_zero, Act.put, List.setIfInBounds_toArray, List.set_cons_zero, List.set_cons_succ]
            refine wpAnyH_take (i := 21) (v := undef) rfl (by kernel_rfl) (by kernel_rfl) (by kernel_rfl) (fun _ _ _ h => h) (Or.inr ⟨by rfl, rfl⟩) (by assumption) ?_
            simp only [List.getElem_toArray, List.getElem_cons_succ, List.getElem_cons_zero, Act.put, List.setIfInBounds_toArray, List.set_cons_zero, List.set_cons_succ]
            refine wpAnyH_take (i := 22) (v := undef) rfl (by kernel_rfl) (by kernel_rfl) (by kernel_rfl) (fun _ _ _ h => h) (Or.inr ⟨by rfl, rfl⟩) (by assumption) ?_
            simp only [List.getElem_toArray, List.getElem_cons_succ, List.getElem_cons_zero, Act.put, List.setIfInBounds_toArray, List.set_cons_zero, List.set_cons_succ]
            refine wpAnyH_take (i := 23) (v := undef) rfl (by kernel_rfl) (by kernel_rfl) (by kernel_rfl) (fun _ _ _ h => h) (Or.inr ⟨by rfl, rfl⟩) (by assumption) ?_
            simp only [List.getElem_toArray, List.getElem_cons_succ, List.getElem_cons_zero, Act.put, List.setIfInBounds_toArray, List.set_cons_zero, List.set_cons_succ]
            refine wpAnyH_take (i := 24) (v := undef) rfl (by kernel_rfl) (by kernel_rfl) (by kernel_rfl) (fun _ _ _ h => h) (Or.inr ⟨by rfl, rfl⟩) (by assumption) ?_
            simp only [List.getElem_toArray, List.getElem_cons_succ, List.getElem_cons_zero, Act.put, List.setIfInBounds_toArray, List.set_cons_zero, List.set_cons_succ]
            refine wpAnyH_take (i := 25) (v := ?_) rfl (by kernel_rfl) (by kernel_rfl) (by kernel_rfl) (fun _ _ _ h => h) (Or.inl ⟨by rfl, ?_⟩) (by assumption) ?_
            rotate_left
            · (intro wq hq; clear hq; go_simp; try with_reducible rfl)
            simp only [List.getElem_toArray, List.getElem_cons_succ, List.getElem_cons_zero, Act.put, List.setIfInBounds_toArray, List.set_cons_zero, List.set_cons_succ]
            refine wpAnyH_take (i := 26) (v := ?_) rfl (by kernel_rfl) (by kernel_rfl) (by kernel_rfl) (fun _ _ _ h => h) (Or.inl ⟨by rfl, ?_⟩) (by assumption) ?_
            rotate_left
            · (intro wq hq; clear hq; go_simp; try with_reducible rfl)
            simp only [List.getElem_toArray, List.getElem_cons_succ, List.getElem_cons_zero, Act.put, List.setIfInBounds_toArray, List.set_cons_zero, List.set_cons_succ]
            refine wpAnyH_take (i := 27) (v := ?_) rfl (by kernel_rfl) (by kernel_rfl) (by kernel_rfl) (fun _ _ _ h => h) (Or.inl ⟨by rfl, ?_⟩) (by assumption) ?_
            rotate_left
            · (intro wq hq; clear hq; go_simp; try with_reducible rfl)
            simp only [List.getElem_toArray, List.getElem_cons_succ, List.getElem_cons_zero, Act.put, List.setIfInBounds_toArray, List.set_cons_zero, List.set_cons_succ]
            refine wpAnyH_done (by kernel_rfl) ?_ _
            go_wp2
            go_ret
            exact ⟨rfl, b4⟩
          | true =>
            have hpq := plain_quote hdone.out.1 (Hpl2.out rfl) HX.out
            have hpe : ((x.toList == (⟨#[34]⟩ ++ a ++ ⟨#[34]⟩ : ByteArray).toList)) = true := by rw [hpq]; simp
            clear hpq
            go_region_held3 (fun wx => Below w.heap.size w wx) (first | assumption | exact c2.drew) (first | (go_at_call 11; refine (alive_from w _ HT.out (by assumption)).mono ?_; rintro e w3 ⟨rfl, b3⟩) | (go_at_call 16; refine (Quote_joined_from w _ HT.out HAB.out HJ.out (by assumption)).mono ?_; rintro e w4 ⟨rfl, b4⟩))
            go_wp2
            go_ret
            exact ⟨rfl, by assumption⟩
end Glw
end Go.Proofs.YtjjkbfjahljeeaaDoor
