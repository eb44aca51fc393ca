/-
  DERIVED. LAYER 3 (ty), walked: the printer: node, arrow, row.
-/
import Derived.Test.YthamcklkmchkiaaDoorBldS
import Derived.StillTailTactics
namespace Go.Proofs.YthamcklkmchkiaaDoor
open Go.RowKit
namespace Shw
open Gl Glw Sh

def PrPost (B b : Nat) (l : List UInt8) (j : Nat) (w : World) (e : Ending) (w' : World) : Prop := e = .returned (.int .i64 j) ∧ Bldp.Is B b (Lib.byteCells l) w' ∧ Below B w w'
def WrPost (B b : Nat) (l : List UInt8) (n : Nat) (w : World) (e : Ending) (w' : World) : Prop := e = .returned (.tuple #[.int .i64 n, .nilIface]) ∧ Bldp.Is B b (Lib.byteCells l) w' ∧ Below B w w' ∧ Bldp.Kept b w w'
theorem wsP (B b : Nat) (l : List UInt8) (s : ByteArray) (w : World) (h : Bldp.Is B b (Lib.byteCells l) w) (hl : l.length + s.size ≤ 1000000000) (hB : B ≤ w.heap.size) :
    Calls Tryd.prog 41 #[.pointer (some ⟨b, 0, none⟩), .string s] w (WrPost B b (l ++ s.data.toList) s.size w) := by
  refine (Bldp.WriteString B b _ s w h (by rw [Lib.byteCells_length]; omega) hB).mono ?_
  rintro e w' ⟨he, h1, h2, h3⟩
  refine ⟨he, ?_, h2, h3⟩
  rw [cells_str] at h1
  exact .inr h1

def NodeOk (bT off cap B b : Nat) (L : List TN) (w0 : World) (N : Nat) : Prop :=
  ∀ (i : Nat) (t : TT) (rest : List TN) (acc : List UInt8) (w : World), okTT t → (flatTT t).length ≤ N → L.drop i = flatTT t ++ rest → Bldp.Is B b (Lib.byteCells acc) w → Below B w0 w → B ≤ w.heap.size → acc.length + (printTT t).length ≤ 1000000000 →
    Calls Tryd.prog 57 #[.pointer (some ⟨b, 0, none⟩), .slice (some ⟨bT, off, none⟩) L.length cap, .int .i64 i] w (PrPost B b (acc ++ printTT t) (i + (flatTT t).length) w)

theorem head_of {L : List TN} {i : Nat} {t : TT} {rest : List TN} (h : L.drop i = flatTT t ++ rest) : i < L.length ∧ L[i]? = some (rootTT t) := by
  have hi : i < L.length := by
    rcases Nat.lt_or_ge i L.length with h' | h'
    · exact h'
    · rw [List.drop_of_length_le h', flatTT_eq] at h; simp at h
  refine ⟨hi, ?_⟩
  rw [List.drop_eq_getElem_cons hi, flatTT_eq, List.cons_append] at h
  injection h with h _
  rw [List.getElem?_eq_getElem hi, h]

set_option maxHeartbeats 4000000 in
set_option maxRecDepth 100000 in
theorem arrowP (bT off cap B b : Nat) (L : List TN) (w0 : World) (hR : RdT w0 bT off L) (hbT : bT < B) (N : Nat) (IH : NodeOk bT off cap B b L w0 N)
    (i : Nat) (a c : TT) (rest : List TN) (acc : List UInt8) (w : World) (hoka : okTT a) (hokc : okTT c) (hszA : (flatTT a).length ≤ N) (hszC : (flatTT c).length ≤ N) (hd : L.drop i = flatTT a ++ (flatTT c ++ rest))
    (hI : Bldp.Is B b (Lib.byteCells acc) w) (hB : Below B w0 w) (hBw : B ≤ w.heap.size) (hl : acc.length + (arrowTT [a, c]).length ≤ 1000000000) :
    Calls Tryd.prog 77 #[.pointer (some ⟨b, 0, none⟩), .slice (some ⟨bT, off, none⟩) L.length cap, .int .i64 i] w (PrPost B b (acc ++ arrowTT [a, c]) (i + (flatTT a).length + (flatTT c).length) w) := by
  obtain ⟨hi, hra⟩ := head_of hd
  have hd2 : L.drop (i + (flatTT a).length) = flatTT c ++ rest := by rw [← List.drop_drop, hd, List.drop_left]
  obtain ⟨p2, hp2⟩ : ∃ p2, i + (flatTT a).length = p2 := ⟨_, rfl⟩
  rw [hp2] at hd2 ⊢
  obtain ⟨x, hx, a0, -, -⟩ := (hR.since hbT hB).at_ hi
  have hxa : x = rootTT a := by
    rw [hx] at hra
    exact Option.some.inj hra
  rw [hxa] at a0
  have hi0 : (0 : Int) ≤ i := by omega
  have hi1 : (i : Int) < L.length := by omega
  have har : arrowTT [a, c] = (if (rootTT a).k = 5 then 40 :: (printTT a ++ [41]) else printTT a) ++ ([32, 45, 62, 32] ++ printTT c) := by rw [arrowTT, lastTT]
  have HA := Lib.hid har
  have HR := Lib.hid hR
  have HB := Lib.hid hB
  have HBW := Lib.hid hBw
  have HI := Lib.hid hI
  have HL := Lib.hid hl
  have HD := Lib.hid hd
  have HD2 := Lib.hid hd2
  have HIH := Lib.hid IH
  have HSA := Lib.hid hszA
  have HSC := Lib.hid hszC
  have HOA := Lib.hid hoka
  have HOC := Lib.hid hokc
  have HP2 := Lib.hid hp2
  clear hx hxa har hR hB hBw hI hl hd hd2 IH hszA hszC hoka hokc hra hp2
  by_cases h5 : (rootTT a).k = 5
  · have q5 : ((rootTT a).k != 5) = false := by rw [bne_eq_false_iff_eq]; exact h5
    have HA' := Lib.hid (show arrowTT [a, c] = 40 :: (printTT a ++ [41]) ++ ([32, 45, 62, 32] ++ printTT c) by rw [HA.out, if_pos h5])
    have hl : acc.length + (1 + ((printTT a).length + 1)) + (4 + (printTT c).length) ≤ 1000000000 := by
      have := HL.out
      rw [HA'.out] at this
      simp only [List.length_append, List.length_cons, List.length_nil] at this
      omega
    have HL2 := Lib.hid hl
    clear h5 hl HL HA
    go_enter Tryd.func77, Tryd.ntmps77
    go_wp2_with fail
    refine (wsP B b acc ⟨#[40]⟩ _ HI.out (by have := HL2.out; show acc.length + 1 ≤ 1000000000; omega) HBW.out).mono ?_
    rintro e w1 ⟨rfl, h1, b1, -⟩
    dsimp only
    have H1 := Lib.hid h1
    have B1 := Lib.hid b1
    have S1 := Lib.hid (Nat.le_trans HBW.out b1.size)
    clear h1 b1
    go_wp2_with fail
    refine (HIH.out i a _ _ _ HOA.out HSA.out HD.out H1.out (HB.out.trans B1.out) S1.out (by have := HL2.out; show (acc ++ [40]).length + _ ≤ _; simp only [List.length_append, List.length_cons, List.length_nil]; omega)).mono ?_
    rintro e w2 ⟨rfl, h2, b2⟩
    dsimp only
    have H2 := Lib.hid h2
    have B2 := Lib.hid (B1.out.trans b2)
    have S2 := Lib.hid (Nat.le_trans S1.out b2.size)
    clear h2 b2
    rw [HP2.out]
    go_wp2_with fail
    refine (wsP B b _ ⟨#[41]⟩ _ H2.out (by have := HL2.out; show (acc ++ [40] ++ printTT a).length + 1 ≤ 1000000000; simp only [List.length_append, List.length_cons, List.length_nil]; omega) S2.out).mono ?_
    rintro e w3 ⟨rfl, h3, b3, -⟩
    dsimp only
    have H3 := Lib.hid h3
    have B3 := Lib.hid (B2.out.trans b3)
    have S3 := Lib.hid (Nat.le_trans S2.out b3.size)
    clear h3 b3
    go_wp2_with fail
    refine (wsP B b _ ⟨#[32, 45, 62, 32]⟩ _ H3.out (by have := HL2.out; show (acc ++ [40] ++ printTT a ++ [41]).length + 4 ≤ 1000000000; simp only [List.length_append, List.length_cons, List.length_nil]; omega) S3.out).mono ?_
    rintro e w4 ⟨rfl, h4, b4, -⟩
    dsimp only
    have H4 := Lib.hid h4
    have B4 := Lib.hid (B3.out.trans b4)
    have S4 := Lib.hid (Nat.le_trans S3.out b4.size)
    clear h4 b4
    go_wp2_with fail
    refine (HIH.out p2 c _ _ _ HOC.out HSC.out HD2.out H4.out (HB.out.trans B4.out) S4.out (by have := HL2.out; show (acc ++ [40] ++ printTT a ++ [41] ++ [32, 45, 62, 32]).length + _ ≤ _; simp only [List.length_append, List.length_cons, List.length_nil]; omega)).mono ?_
    rintro e w5 ⟨rfl, h5, b5⟩
    dsimp only
    have H5 := Lib.hid h5
    have B5 := Lib.hid (B4.out.trans b5)
    clear h5 b5
    go_wp2_with fail
    go_ret
    refine ⟨rfl, ?_, B5.out⟩
    have h := H5.out
    rw [HA'.out]
    simpa using h
  · have q5 : ((rootTT a).k != 5) = true := by rw [bne_iff_ne]; exact h5
    have HA' := Lib.hid (show arrowTT [a, c] = printTT a ++ ([32, 45, 62, 32] ++ printTT c) by rw [HA.out, if_neg h5])
    have hl : acc.length + (printTT a).length + (4 + (printTT c).length) ≤ 1000000000 := by
      have := HL.out
      rw [HA'.out] at this
      simp only [List.length_append, List.length_cons, List.length_nil] at this
      omega
    have HL2 := Lib.hid hl
    clear h5 hl HL HA
    go_enter Tryd.func77, Tryd.ntmps77
    go_wp2_with fail
    refine (HIH.out i a _ _ _ HOA.out HSA.out HD.out HI.out HB.out HBW.out (by have := HL2.out; omega)).mono ?_
    rintro e w2 ⟨rfl, h2, b2⟩
    dsimp only
    have H2 := Lib.hid h2
    have B2 := Lib.hid b2
    have S2 := Lib.hid (Nat.le_trans HBW.out b2.size)
    clear h2 b2
    rw [HP2.out]
    go_wp2_with fail
    refine (wsP B b _ ⟨#[32, 45, 62, 32]⟩ _ H2.out (by have := HL2.out; show (acc ++ printTT a).length + 4 ≤ 1000000000; simp only [List.length_append]; omega) S2.out).mono ?_
    rintro e w4 ⟨rfl, h4, b4, -⟩
    dsimp only
    have H4 := Lib.hid h4
    have B4 := Lib.hid (B2.out.trans b4)
    have S4 := Lib.hid (Nat.le_trans S2.out b4.size)
    clear h4 b4
    go_wp2_with fail
    refine (HIH.out p2 c _ _ _ HOC.out HSC.out HD2.out H4.out (HB.out.trans B4.out) S4.out (by have := HL2.out; show (acc ++ printTT a ++ [32, 45, 62, 32]).length + _ ≤ _; simp only [List.length_append, List.length_cons, List.length_nil]; omega)).mono ?_
    rintro e w5 ⟨rfl, h5, b5⟩
    dsimp only
    have H5 := Lib.hid h5
    have B5 := Lib.hid (B4.out.trans b5)
    clear h5 b5
    go_wp2_with fail
    go_ret
    refine ⟨rfl, ?_, B5.out⟩
    have h := H5.out
    rw [HA'.out]
    simpa using h
mutual
theorem row_take (sep : List UInt8) : ∀ (ts : List TT) (k : Nat), (rowTT sep (ts.take k)).length ≤ (rowTT sep ts).length
  | [], k => by rw [List.take_nil]; exact Nat.le_refl _
  | t :: ts, 0 => by rw [List.take_zero, rowTT]; exact Nat.zero_le _
  | t :: ts, k + 1 => by
    have h := tail_take sep ts k
    rw [List.take_succ_cons, rowTT, rowTT]
    simp only [List.length_append]; omega
theorem tail_take (sep : List UInt8) : ∀ (ts : List TT) (k : Nat), (tailTT sep (ts.take k)).length ≤ (tailTT sep ts).length
  | [], k => by rw [List.take_nil]; exact Nat.le_refl _
  | t :: ts, 0 => by rw [List.take_zero, tailTT]; exact Nat.zero_le _
  | t :: ts, k + 1 => by
    have h := tail_take sep ts k
    rw [List.take_succ_cons, tailTT, tailTT]
    simp only [List.length_append]; omega
end
theorem flatTTs_app : ∀ (a c : List TT), flatTTs (a ++ c) = flatTTs a ++ flatTTs c
  | [], c => by rw [flatTTs]; rfl
  | t :: a, c => by rw [List.cons_append, flatTTs, flatTTs, flatTTs_app a c, List.append_assoc]
/-- Where the k-th child stands. -/
theorem drop_kid {L : List TN} {i : Nat} {ts : List TT} {rest : List TN} (h : L.drop i = flatTTs ts ++ rest) {k : Nat} {a : TT} (ha : ts[k]? = some a) :
    L.drop (i + (flatTTs (ts.take k)).length) = flatTT a ++ (flatTTs (ts.drop (k + 1)) ++ rest) := by
  obtain ⟨hk, e⟩ := List.getElem?_eq_some_iff.1 ha
  have e1 : ts = ts.take k ++ (a :: ts.drop (k + 1)) := by
    rw [← e, ← List.drop_eq_getElem_cons hk, List.take_append_drop]
  have e2 : flatTTs ts = flatTTs (ts.take k) ++ (flatTT a ++ flatTTs (ts.drop (k + 1))) := by
    conv => lhs; rw [e1]
    rw [flatTTs_app, flatTTs]
  rw [← List.drop_drop, h, e2, List.append_assoc, List.drop_left, List.append_assoc]

set_option maxHeartbeats 4000000 in
set_option maxRecDepth 100000 in
theorem rowP (bT off cap B b : Nat) (L : List TN) (hL : L.length ≤ 1000) (hN : NamesOk L) (w0 : World) (hR : RdT w0 bT off L) (hbT : bT < B) (N : Nat) (IH : NodeOk bT off cap B b L w0 N)
    (i : Nat) (m : TN) (ts : List TT) (rest : List TN) (acc : List UInt8) (op sep cl : ByteArray) (hs : op.size ≤ 3 ∧ sep.size ≤ 3 ∧ cl.size ≤ 3) (hi : i < L.length) (hm : L[i]? = some m) (hn : m.n = ts.length) (htl : ts.length ≤ 50)
    (hok : okTTs ts) (hsz : (flatTTs ts).length ≤ N) (hd : L.drop (i + 1) = flatTTs ts ++ rest) (w : World)
    (hI : Bldp.Is B b (Lib.byteCells acc) w) (hB : Below B w0 w) (hBw : B ≤ w.heap.size) (hl : acc.length + op.size + (rowTT sep.data.toList ts).length + cl.size ≤ 1000000000) :
    Calls Tryd.prog 78 #[.pointer (some ⟨b, 0, none⟩), .slice (some ⟨bT, off, none⟩) L.length cap, .int .i64 i, .string op, .string sep, .string cl] w
      (PrPost B b (acc ++ op.data.toList ++ rowTT sep.data.toList ts ++ cl.data.toList) (i + 1 + (flatTTs ts).length) w) := by
  obtain ⟨x, hx, -, -, a2⟩ := (hR.since hbT hB).at_ hi
  have hxa : x = m := by
    rw [hx] at hm
    exact Option.some.inj hm
  rw [hxa, hn] at a2
  have hi0 : (0 : Int) ≤ i := by omega
  have hi1 : (i : Int) < L.length := by omega
  have HR := Lib.hid hR
  have HB := Lib.hid hB
  have HBW := Lib.hid hBw
  have HI := Lib.hid hI
  have HL := Lib.hid hl
  have HD := Lib.hid hd
  have HIH := Lib.hid IH
  have HSZ := Lib.hid hsz
  have HOK := Lib.hid hok
  have HN := Lib.hid hN
  have HS := Lib.hid hs
  clear hx hxa hR hB hBw hI hl hd IH hsz hok hN hm hn hs
  go_enter Tryd.func78, Tryd.ntmps78
  go_wp2_with fail
  refine (wsP B b acc op _ HI.out (by have := HL.out; omega) HBW.out).mono ?_
  rintro e w1 ⟨rfl, h1, b1, -⟩
  dsimp only
  have H1 := Lib.hid h1
  have c2 : w1.cell? ⟨bT, off + i * 3 + 2, none⟩ = some (.int .i64 ts.length) := (b1.cell (p := ⟨bT, off + i * 3 + 2, none⟩) hbT).trans a2
  have B1 := Lib.hid b1
  have S1 := Lib.hid (Nat.le_trans HBW.out b1.size)
  clear h1 b1 a2
  go_wp2_with fail
  go_loopw [2, 28] (fun a k wr => ∃ (j p : Nat), p = i + 1 + (flatTTs (ts.take j)).length ∧ a = .int .i64 p ∧ k = .int .i64 j ∧ j ≤ ts.length ∧ Bldp.Is B b (Lib.byteCells (acc ++ op.data.toList ++ rowTT sep.data.toList (ts.take j))) wr ∧ Below B w wr) (fun _ k _ => ts.length - (intOf k).toNat)
  case atStart => exact ⟨0, i + 1, by rw [List.take_zero, flatTTs]; rfl, by simp, rfl, Nat.zero_le _, by rw [List.take_zero, rowTT, List.append_nil]; exact H1.out, B1.out⟩
  case round =>
    obtain ⟨j, p, hp, rfl, rfl, hj, hIr, hBr⟩ := hrel
    have HIr := Lib.hid hIr
    have HBr := Lib.hid hBr
    have Sr := Lib.hid (Nat.le_trans HBW.out hBr.size)
    have HP := Lib.hid hp
    clear hIr hBr hp
    by_cases hlt : j < ts.length
    · obtain ⟨a, ha⟩ : ∃ a, ts[j]? = some a := ⟨_, List.getElem?_eq_getElem hlt⟩
      have hdk := drop_kid HD.out ha
      rw [← HP.out] at hdk
      obtain ⟨hpl, hra⟩ := head_of hdk
      have ham : a ∈ ts := List.mem_of_getElem? ha
      have hmm := flatTT_mem ts a ham
      have hszk : (flatTT a).length ≤ N := Nat.le_trans hmm.1 HSZ.out
      have hoka := okTTs_mem HOK.out a ham
      have hnma : (rootTT a).nm.size ≤ 1000 := HN.out _ (by
        have : rootTT a ∈ flatTT a := by rw [flatTT_eq]; simp
        have := hmm.2 _ this
        have h2 : rootTT a ∈ L.drop (i + 1) := by rw [HD.out]; exact List.mem_append_left _ this
        exact List.mem_of_mem_drop h2)
      have hk9 : (rootTT a).k ≠ 9 := by
        cases a with
        | mk x xs => rw [okTT] at hoka; exact hoka.2.2.1.2
      obtain ⟨x, hx, b0, b1, -⟩ := (HR.out.since hbT (HB.out.trans HBr.out)).at_ hpl
      have hxa : x = rootTT a := by
        rw [hx] at hra
        exact Option.some.inj hra
      rw [hxa] at b0 b1
      have htk : ts.take (j + 1) = ts.take j ++ [a] := by rw [List.take_add_one, ha]; rfl
      have hle := row_take sep.data.toList ts (j + 1)
      have hl := HL.out
      have hsz1 := size_data op
      have hsz2 := size_data sep
      have hsz3 := size_data (rootTT a).nm
      have hnext : i + 1 + (flatTTs (ts.take (j + 1))).length = p + (flatTT a).length := by
        rw [htk, flatTTs_app, flatTTs, flatTTs, List.append_nil, List.length_append, HP.out]; omega
      have hj0 : (0 : Int) ≤ j := by omega
      have hlt' : (j : Int) < ts.length := by omega
      have hp0 : (0 : Int) ≤ p := by omega
      have hp1 : (p : Int) < L.length := by omega
      have q9 : ((rootTT a).k != 9) = true := by rw [bne_iff_ne]; exact hk9
      obtain ⟨nm, hnm⟩ : ∃ nm, (rootTT a).nm = nm := ⟨_, rfl⟩
      rw [hnm] at b1 hnma hsz3
      have f2 : (9223372036854775807 < nm.size + 2) = False := by simp; omega
      obtain ⟨A2, hA2⟩ : ∃ A2, nm ++ (⟨#[58, 32]⟩ : ByteArray) = A2 := ⟨_, rfl⟩
      have hA2d : A2.data.toList = nm.data.toList ++ [58, 32] := by rw [← hA2, app_data]
      have s2 : A2.size = nm.size + 2 := by rw [← hA2, ByteArray.size_append]; rfl
      have HTK := Lib.hid htk
      have HA2D := Lib.hid hA2d
      have HNM := Lib.hid hnm
      have HNX := Lib.hid hnext
      have HDK := Lib.hid hdk
      have HSK := Lib.hid hszk
      have HOA := Lib.hid hoka
      by_cases hj00 : j = 0
      · have qk : decide (0 < j) = false := by simp; omega
        have hrow : rowTT sep.data.toList (ts.take (j + 1)) = nm.data.toList ++ ([58, 32] ++ printTT a) := by
          rw [htk, hj00, List.take_zero, List.nil_append, row_one, hnm]
        have hrow0 : rowTT sep.data.toList (ts.take j) = [] := by rw [hj00, List.take_zero, rowTT]
        have hbound : (acc ++ op.data.toList).length + A2.size + (printTT a).length ≤ 1000000000 := by
          rw [hrow] at hle
          simp only [List.length_append, List.length_cons, List.length_nil] at hle ⊢
          omega
        have hI0 : Bldp.Is B b (Lib.byteCells (acc ++ op.data.toList)) wr := by
          have h := HIr.out
          rw [hrow0, List.append_nil] at h
          exact h
        have HBD := Lib.hid hbound
        have HI0 := Lib.hid hI0
        have HRW := Lib.hid hrow
        clear hj00 hrow0 hbound hI0 hrow hle hl hsz1 hsz2 hsz3 hnma s2 hA2d htk hnm hnext hdk hszk hoka hmm ham ha hx hxa hra hk9
        go_wp2_with fail
        have HBz := HBr
        have Sz := Sr
        go_still_tail 9, (by kernel_rfl)
        change wpList _ _ _ _ _ wr.drew
        have hbd : Below wr.heap.size wr wr.drew := (Below.refl _ _).drew
        generalize wr.drew = wd at hbd ⊢
        have HId := Lib.hid (IsP_below HI0.out hbd)
        have HBd := Lib.hid (HBz.out.trans (hbd.mono Sz.out))
        have Sd := Lib.hid (Nat.le_trans Sz.out hbd.size)
        clear hbd
        go_wp2_with fail
        refine (wsP B b _ A2 _ HId.out (by have := HBD.out; simp only [List.length_append] at this ⊢; omega) Sd.out).mono ?_
        rintro e w3 ⟨rfl, h3, b3, -⟩
        dsimp only
        have H3 := Lib.hid h3
        have B3 := Lib.hid (HBd.out.trans b3)
        have S3 := Lib.hid (Nat.le_trans Sd.out b3.size)
        clear h3 b3
        go_wp2_with fail
        refine (HIH.out p a _ _ _ HOA.out HSK.out HDK.out H3.out (HB.out.trans B3.out) S3.out (by have := HBD.out; have hA := size_data A2; simp only [List.length_append] at this hA ⊢; omega)).mono ?_
        rintro e w4 ⟨rfl, h4, b4⟩
        dsimp only
        have H4 := Lib.hid h4
        have B4 := Lib.hid (B3.out.trans b4)
        clear h4 b4
        go_wp2_with fail
        refine ⟨⟨j + 1, p + (flatTT a).length, HNX.out.symm, rfl, by simp, by omega, ?_, B4.out⟩, by simp [intOf]; omega⟩
        have h := H4.out
        rw [HRW.out]
        rw [HA2D.out] at h
        simpa using h
      · have qk : decide (0 < j) = true := by simp; omega
        have htne : ts.take j ≠ [] := by
          intro e
          have := congrArg List.length e
          rw [List.length_take, List.length_nil] at this
          omega
        have hrow : rowTT sep.data.toList (ts.take (j + 1)) = rowTT sep.data.toList (ts.take j) ++ (sep.data.toList ++ (nm.data.toList ++ ([58, 32] ++ printTT a))) := by
          rw [htk, row_snoc _ _ _ htne, hnm]
        have hbound : (acc ++ op.data.toList ++ rowTT sep.data.toList (ts.take j)).length + sep.size + A2.size + (printTT a).length ≤ 1000000000 := by
          rw [hrow] at hle
          simp only [List.length_append, List.length_cons, List.length_nil] at hle ⊢
          omega
        have HBD := Lib.hid hbound
        have HRW := Lib.hid hrow
        have HS2 := Lib.hid hsz2
        clear hj00 htne hbound hrow hle hl hsz1 hsz2 hsz3 hnma s2 hA2d htk hnm hnext hdk hszk hoka hmm ham ha hx hxa hra hk9
        go_wp2_with fail
        refine (wsP B b _ sep _ HIr.out (by have := HBD.out; omega) Sr.out).mono ?_
        rintro e w2 ⟨rfl, h2, b2, -⟩
        dsimp only
        have HI0 := Lib.hid h2
        have c0 : w2.cell? ⟨bT, off + p * 3, none⟩ = some (.int .i64 (rootTT a).k) := (b2.cell (p := ⟨bT, off + p * 3, none⟩) hbT).trans b0
        have c1 : w2.cell? ⟨bT, off + p * 3 + 1, none⟩ = some (.string nm) := (b2.cell (p := ⟨bT, off + p * 3 + 1, none⟩) hbT).trans b1
        have HBz := Lib.hid (HBr.out.trans b2)
        have Sz := Lib.hid (Nat.le_trans Sr.out b2.size)
        clear h2 b2 b0 b1
        go_wp2_with fail
        go_still_tail 9, (by kernel_rfl)
        change wpList _ _ _ _ _ w2.drew
        have hbd : Below w2.heap.size w2 w2.drew := (Below.refl _ _).drew
        generalize w2.drew = wd at hbd ⊢
        have HId := Lib.hid (IsP_below HI0.out hbd)
        have HBd := Lib.hid (HBz.out.trans (hbd.mono Sz.out))
        have Sd := Lib.hid (Nat.le_trans Sz.out hbd.size)
        clear hbd
        go_wp2_with fail
        refine (wsP B b _ A2 _ HId.out (by have := HBD.out; have hS := HS2.out; simp only [List.length_append] at this ⊢; omega) Sd.out).mono ?_
        rintro e w3 ⟨rfl, h3, b3, -⟩
        dsimp only
        have H3 := Lib.hid h3
        have B3 := Lib.hid (HBd.out.trans b3)
        have S3 := Lib.hid (Nat.le_trans Sd.out b3.size)
        clear h3 b3
        go_wp2_with fail
        refine (HIH.out p a _ _ _ HOA.out HSK.out HDK.out H3.out (HB.out.trans B3.out) S3.out (by have := HBD.out; have hS := HS2.out; have hA := size_data A2; simp only [List.length_append] at this hA ⊢; omega)).mono ?_
        rintro e w4 ⟨rfl, h4, b4⟩
        dsimp only
        have H4 := Lib.hid h4
        have B4 := Lib.hid (B3.out.trans b4)
        clear h4 b4
        go_wp2_with fail
        refine ⟨⟨j + 1, p + (flatTT a).length, HNX.out.symm, rfl, by simp, by omega, ?_, B4.out⟩, by simp [intOf]; omega⟩
        have h := H4.out
        rw [HRW.out]
        rw [HA2D.out] at h
        simpa using h
    · obtain rfl : j = ts.length := by omega
      have hl := HL.out
      have hsz1 := size_data op
      have HL2 := Lib.hid (show (acc ++ op.data.toList ++ rowTT sep.data.toList ts).length + cl.size ≤ 1000000000 by simp only [List.length_append]; omega)
      have hIe := HIr.out
      rw [List.take_length] at hIe
      have HIe := Lib.hid hIe
      have hpe := HP.out
      rw [List.take_length] at hpe
      have HPE := Lib.hid hpe
      clear hl hsz1 hIe hpe
      go_wp2_with fail
      refine (wsP B b _ cl _ HIe.out HL2.out Sr.out).mono ?_
      rintro e w3 ⟨rfl, h3, b3, -⟩
      dsimp only
      have H3 := Lib.hid h3
      have B3 := Lib.hid (HBr.out.trans b3)
      clear h3 b3
      go_wp2_with fail
      go_ret
      exact ⟨(show Ending.returned (.int .i64 p) = _ by rw [HPE.out]), H3.out, B3.out⟩
end Shw
end Go.Proofs.YthamcklkmchkiaaDoor
