/-
  DERIVED. LAYER 21 (show): what is wrong, and where, walked: the program's and the reference's.
-/
import Derived.Test.YthamcklkmchkiaaDoorShJoined
import Derived.Test.YthamcklkmchkiaaDoorGlPure
namespace Go.Proofs.YthamcklkmchkiaaDoor
open Go.RowKit
namespace Gl
theorem place_hi (l : List UInt8) : ∀ (m a b : Int), (placeFrom l m a b).1 ≤ a + l.length ∧ (placeFrom l m a b).2 ≤ max b 1 + l.length := by
  induction l using chunk_ind with
  | h0 => intro m a b; rw [placeFrom_nil]; simp; omega
  | h1 l hl ih =>
    cases l with
    | nil => exact absurd rfl hl
    | cons c r =>
      intro m a b
      by_cases hm : m ≤ 0
      · rw [placeFrom_stop _ _ _ _ hm]; simp only; omega
      · have h1 := stepL_pos (c :: r)
        have h2 := stepL_le (c :: r) hl
        rw [placeFrom_step c r m a b (by omega)]
        have := ih (m - stepL (c :: r)) (if c.toNat = 10 then a + 1 else a) (if c.toNat = 10 then 1 else b + 1)
        rw [List.length_drop] at this
        have h3 : (if c.toNat = 10 then a + 1 else a) ≤ a + 1 := by split <;> omega
        have h4 : (if c.toNat = 10 then 1 else b + 1) ≤ max b 1 + 1 := by split <;> omega
        omega
end Gl
namespace Shw
open Gl Glw Sh

def iS (s : ByteArray) : Item := .inl s
def iN (n : Int) : Item := .inr (false, n)
def iL (n : Int) : Item := .inr (true, n)
theorem itemsB_nil : itemsB [] = [] := rfl
theorem itemsB_S (s : ByteArray) (l : List Item) : itemsB (iS s :: l) = s.data.toList ++ itemsB l := rfl
theorem itemsB_N (n : Int) (l : List Item) : itemsB (iN n :: l) = Lib.itoa n ++ itemsB l := rfl
theorem itemsB_L (n : Int) (l : List Item) : itemsB (iL n :: l) = Lib.itoa n ++ itemsB l := rfl
theorem ok_nil : ∀ x ∈ ([] : List Item), itemOk x := fun x h => by cases h
theorem ok_S (s : ByteArray) {l : List Item} (h : ∀ x ∈ l, itemOk x) : ∀ x ∈ iS s :: l, itemOk x := fun x hx => by
  rcases List.mem_cons.1 hx with rfl | hx
  · trivial
  · exact h x hx
theorem ok_N {n : Int} {l : List Item} (hn : -9223372036854775808 ≤ n ∧ n ≤ 9223372036854775807) (h : ∀ x ∈ l, itemOk x) : ∀ x ∈ iN n :: l, itemOk x := fun x hx => by
  rcases List.mem_cons.1 hx with rfl | hx
  · exact hn
  · exact h x hx
theorem ok_L {n : Int} {l : List Item} (hn : -9223372036854775808 ≤ n ∧ n ≤ 9223372036854775807) (h : ∀ x ∈ l, itemOk x) : ∀ x ∈ iL n :: l, itemOk x := fun x hx => by
  rcases List.mem_cons.1 hx with rfl | hx
  · exact hn
  · exact h x hx
/-- Some texts and numbers in a new block, joined. -/
theorem joined_new (l : List Item) (w : World) (hE : Env w) (hok : ∀ x ∈ l, itemOk x) (hn : l.length ≤ 1000000) (hlen : (itemsB l).length ≤ 140737488355328) :
    Calls Tryd.prog 27 #[.slice (some ⟨w.heap.size, 0, none⟩) l.length l.length] (w.alloc (.cells (l.map itemV).toArray 20)) fun e w' => e = .returned (.string ⟨(itemsB l).toArray⟩) ∧ Below w.heap.size w w' := by
  have hb : Below w.heap.size w (w.alloc (.cells (l.map itemV).toArray 20)) := (Below.refl _ _).alloc (Nat.le_refl _) _
  refine (joined w.heap.size 0 l.length l _ (hE.below hb) (fun i x hx => ?_) (by simp) hok hn hlen).mono fun e w' ⟨he, h⟩ => ⟨he, hb.trans (h.mono (by simp))⟩
  rw [World.cell?_alloc_at _ _ _ _ rfl]
  simp [hx]

/-- What is told of what is wrong. -/
def wrongL (m t : List UInt8) (at' : Int) (e : Int) : List UInt8 := m ++ 58 :: (Lib.itoa (placeL t at').1 ++ 58 :: (Lib.itoa (placeL t at').2 ++ 58 :: 32 :: errL e))

theorem place_bounds (s : ByteArray) (at' : Int) (hs : s.size ≤ 1000000) : 1 ≤ (placeL s.data.toList at').1 ∧ (placeL s.data.toList at').1 ≤ 1000001 ∧ 1 ≤ (placeL s.data.toList at').2 ∧ (placeL s.data.toList at').2 ≤ 1000001 := by
  have h1 := place_one s.data.toList at' 1 1 (Int.le_refl 1) (Int.le_refl 1)
  have h2 := place_hi s.data.toList at' 1 1
  rw [size_data] at h2
  unfold placeL
  omega

set_option maxHeartbeats 2000000 in
set_option maxRecDepth 100000 in
theorem Wrong (m t : ByteArray) (at' e : Int) (w : World) (hE : Env w) (hm : m.size ≤ 1000000) (ht : t.size ≤ 1000000) (h0 : -9223372036854775808 ≤ e) (h1 : e ≤ 9223372036854775807) :
    Calls Tryd.prog 12 #[.string m, .string t, .int .i64 at', .int .i64 e] w fun en w' => en = .returned (.string ⟨(wrongL m.data.toList t.data.toList at' e).toArray⟩) ∧ Below w.heap.size w w' := by
  have hP := Glw.Place t at' w (by omega)
  have hb := place_bounds t at' ht
  have hW : wrongL m.data.toList t.data.toList at' e = m.data.toList ++ 58 :: (Lib.itoa (placeL t.data.toList at').1 ++ 58 :: (Lib.itoa (placeL t.data.toList at').2 ++ 58 :: 32 :: errL e)) := rfl
  generalize (placeL t.data.toList at').1 = L at hP hb hW
  generalize (placeL t.data.toList at').2 = C at hP hb hW
  have HP := Lib.hid hP
  have HW := Lib.hid hW
  have HE := Lib.hid hE
  have hel := errL_len e
  have HEL := Lib.hid hel
  clear hP hW hE hel
  go_enter Tryd.func12, Tryd.ntmps12
  go_wp2_with fail
  refine HP.out.mono ?_
  rintro en w1 ⟨rfl, b1⟩
  have HB1 := Lib.hid b1
  clear b1
  dsimp only
  go_wp2_with fail
  refine (Error e _ (HE.out.below HB1.out) h0 h1).mono ?_
  rintro en w2 ⟨rfl, b2⟩
  have HB2 := Lib.hid (HB1.out.trans (b2.mono HB1.out.size))
  clear b2
  dsimp only
  go_wp2_with fail
  have hitems : itemsB [iS m, iS ⟨#[58]⟩, iN L, iS ⟨#[58]⟩, iN C, iS ⟨#[58, 32]⟩, iS ⟨(errL e).toArray⟩] = wrongL m.data.toList t.data.toList at' e := by
    rw [HW.out]
    simp only [itemsB_S, itemsB_N, itemsB_nil, List.append_nil]
    rfl
  have hj := joined_new [iS m, iS ⟨#[58]⟩, iN L, iS ⟨#[58]⟩, iN C, iS ⟨#[58, 32]⟩, iS ⟨(errL e).toArray⟩] w2 (HE.out.below HB2.out) (ok_S _ (ok_S _ (ok_N ⟨by omega, by omega⟩ (ok_S _ (ok_N ⟨by omega, by omega⟩ (ok_S _ (ok_S _ ok_nil))))))) (by simp) (by
    rw [hitems, HW.out]
    have i1 := itoa_len L (by omega) (by omega)
    have i2 := itoa_len C (by omega) (by omega)
    have i3 := HEL.out
    simp only [List.length_append, List.length_cons, size_data]
    omega)
  rw [hitems] at hj
  refine Calls.mono hj ?_
  clear hj hitems
  rintro en w3 ⟨rfl, b3⟩
  dsimp only
  go_wp2
  go_ret
  exact ⟨rfl, HB2.out.trans (b3.mono HB2.out.size)⟩

theorem fits_cat (a b : ByteArray) (h : a.size + b.size ≤ 4000000) : (9223372036854775807 < a.size + b.size) = False := by simp; omega
theorem col_size : (⟨#[58]⟩ : ByteArray).size = 1 ∧ (⟨#[58, 32]⟩ : ByteArray).size = 2 := ⟨rfl, rfl⟩

set_option maxHeartbeats 2000000 in
set_option maxRecDepth 100000 in
theorem refWrong (m t : ByteArray) (at' e : Int) (w : World) (hm : m.size ≤ 1000000) (ht : t.size ≤ 1000000) (h0 : -9223372036854775808 ≤ e) (h1 : e ≤ 9223372036854775807) :
    Calls Tryd.prog 13 #[.string m, .string t, .int .i64 at', .int .i64 e] w fun en w' => en = .returned (.string ⟨(wrongL m.data.toList t.data.toList at' e).toArray⟩) ∧ Below w.heap.size w w' := by
  have hP := refPlace t at' w (by omega)
  have hb := place_bounds t at' ht
  have hW : wrongL m.data.toList t.data.toList at' e = m.data.toList ++ 58 :: (Lib.itoa (placeL t.data.toList at').1 ++ 58 :: (Lib.itoa (placeL t.data.toList at').2 ++ 58 :: 32 :: errL e)) := rfl
  generalize (placeL t.data.toList at').1 = L at hP hb hW
  generalize (placeL t.data.toList at').2 = C at hP hb hW
  have i1 := itoa_len L (by omega) (by omega)
  have i2 := itoa_len C (by omega) (by omega)
  have i3 := errL_len e
  obtain ⟨y1, hy1⟩ : ∃ y : ByteArray, (⟨(Lib.itoa L).toArray⟩ : ByteArray) = y := ⟨_, rfl⟩
  obtain ⟨y2, hy2⟩ : ∃ y : ByteArray, (⟨(Lib.itoa C).toArray⟩ : ByteArray) = y := ⟨_, rfl⟩
  obtain ⟨y3, hy3⟩ : ∃ y : ByteArray, (⟨(errL e).toArray⟩ : ByteArray) = y := ⟨_, rfl⟩
  have z1 : y1.size ≤ 21 := by rw [← hy1]; simpa [ByteArray.size] using i1
  have z2 : y2.size ≤ 21 := by rw [← hy2]; simpa [ByteArray.size] using i2
  have z3 : y3.size ≤ 6 := by rw [← hy3]; simpa [ByteArray.size] using i3
  have F1 := fun w => Figures L w (by omega) (by omega)
  have F2 := fun w => Figures C w (by omega) (by omega)
  have F3 := fun w => refError e w h0 h1
  rw [hy1] at F1
  rw [hy2] at F2
  rw [hy3] at F3
  have hres : m ++ ⟨#[58]⟩ ++ y1 ++ ⟨#[58]⟩ ++ y2 ++ ⟨#[58, 32]⟩ ++ y3 = (⟨(wrongL m.data.toList t.data.toList at' e).toArray⟩ : ByteArray) := by
    refine of_data ?_
    rw [app_data, app_data, app_data, app_data, app_data, app_data, hW, ← hy1, ← hy2, ← hy3]
    simp only [List.append_assoc]
    rfl
  have s1 := col_size.1
  have s2 := col_size.2
  have c1 := fits_cat m ⟨#[58]⟩ (by omega)
  have c2 := fits_cat (m ++ ⟨#[58]⟩) y1 (by simp only [ByteArray.size_append]; omega)
  have c3 := fits_cat (m ++ ⟨#[58]⟩ ++ y1) ⟨#[58]⟩ (by simp only [ByteArray.size_append]; omega)
  have c4 := fits_cat (m ++ ⟨#[58]⟩ ++ y1 ++ ⟨#[58]⟩) y2 (by simp only [ByteArray.size_append]; omega)
  have c5 := fits_cat (m ++ ⟨#[58]⟩ ++ y1 ++ ⟨#[58]⟩ ++ y2) ⟨#[58, 32]⟩ (by simp only [ByteArray.size_append]; omega)
  have c6 := fits_cat (m ++ ⟨#[58]⟩ ++ y1 ++ ⟨#[58]⟩ ++ y2 ++ ⟨#[58, 32]⟩) y3 (by simp only [ByteArray.size_append]; omega)
  have HRES := Lib.hid hres
  have HP := Lib.hid hP
  have HF1 := Lib.hid F1
  have HF2 := Lib.hid F2
  have HF3 := Lib.hid F3
  clear hres hP F1 F2 F3 hy1 hy2 hy3 hW i1 i2 i3 s1 s2 hb
  go_enter Tryd.func13, Tryd.ntmps13
  go_wp2_with fail
  refine HP.out.mono ?_
  rintro en w1 ⟨rfl, rfl⟩
  dsimp only
  go_wp2_with fail
  refine (HF1.out _).mono ?_
  rintro en w2 ⟨rfl, b2⟩
  have HB2 := Lib.hid b2
  clear b2
  dsimp only
  go_wp2_with fail
  refine (HF2.out _).mono ?_
  rintro en w3 ⟨rfl, b3⟩
  have HB3 := Lib.hid (HB2.out.trans (b3.mono HB2.out.size))
  clear b3
  dsimp only
  go_wp2_with fail
  refine (HF3.out _).mono ?_
  rintro en w4 ⟨rfl, b4⟩
  have HB4 := Lib.hid (HB3.out.trans (b4.mono HB3.out.size))
  clear b4
  dsimp only
  go_wp2
  go_ret
  exact ⟨by rw [← HRES.out]; rfl, HB4.out⟩
end Shw
end Go.Proofs.YthamcklkmchkiaaDoor
