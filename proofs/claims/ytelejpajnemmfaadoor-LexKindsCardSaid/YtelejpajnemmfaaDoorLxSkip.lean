/-
  DERIVED. LAYER 2 (lex): the reader's way over blanks and remarks, walked.
-/
import Derived.Test.YtelejpajnemmfaaDoorLxSign
import Derived.Test.YtelejpajnemmfaaDoorGlUnq
import Derived.Shelf.Strings.SlTrimAscii
namespace Go.Proofs.YtelejpajnemmfaaDoor
open Go.RowKit
namespace Lx
open Gl

theorem blank_mem (c : UInt8) : [(32 : UInt8), 9, 10].contains c = blankB c := by
  unfold blankB
  have e : ∀ d : UInt8, (c == d) = (c.toNat == d.toNat) := fun d => by
    rw [Bool.eq_iff_iff, beq_iff_eq, beq_iff_eq]; exact ⟨fun h => by rw [h], fun h => UInt8.toNat.inj h⟩
  simp only [List.contains_cons, List.contains_nil, e, Bool.or_false]
  rw [Bool.or_assoc]; rfl
theorem trim_blank (l : List UInt8) : Lib.trimLeftS l [32, 9, 10] = l.dropWhile blankB := by
  unfold Lib.trimLeftS
  congr 1
  funext c
  exact blank_mem c

theorem skip_blanks : ∀ l : List UInt8, skipM false l = (l.takeWhile blankB).length + skipM false (l.dropWhile blankB)
  | [] => rfl
  | c :: r => by
    by_cases h : blankB c = true
    · simp only [skipM, List.takeWhile_cons, List.dropWhile_cons, h, if_true, List.length_cons]
      rw [skip_blanks r]; omega
    · simp only [List.takeWhile_cons, List.dropWhile_cons, h, if_false, Bool.false_eq_true, List.length_nil, Nat.zero_add]
theorem drop_blanks (l : List UInt8) : l.drop (l.takeWhile blankB).length = l.dropWhile blankB := by
  conv => lhs; rw [← List.takeWhile_append_dropWhile (p := blankB) (l := l)]
  induction l with
  | nil => rfl
  | cons c r ih =>
    by_cases h : blankB c = true
    · simp only [List.takeWhile_cons, List.dropWhile_cons, h, if_true, List.length_cons, List.cons_append, List.drop_succ_cons]
      exact ih
    · simp [h]
theorem len_blanks (l : List UInt8) : (l.takeWhile blankB).length + (l.dropWhile blankB).length = l.length := by
  rw [← List.length_append, List.takeWhile_append_dropWhile]

/-- A remark, to its line's end, or to the text's. -/
theorem skip_remark : ∀ l : List UInt8, (Lib.indexByte l 10 = -1 ∧ skipM true l = l.length) ∨ ∃ J : Nat, Lib.indexByte l 10 = J ∧ J < l.length ∧ skipM true l = J + skipM false (l.drop J) ∧ l[J]? = some 10
  | [] => .inl ⟨rfl, rfl⟩
  | c :: r => by
    by_cases h : c = 10
    · subst h
      exact .inr ⟨0, rfl, by simp, by simp [skipM, blankB], rfl⟩
    · have hb : (c == (10 : UInt8)) = false := by simpa using h
      have hn : ¬ c.toNat = 10 := fun e => h (UInt8.toNat.inj e)
      rcases skip_remark r with ⟨h1, h2⟩ | ⟨J, h1, h2, h3, h4⟩
      · refine .inl ⟨by unfold Lib.indexByte; rw [hb, h1]; rfl, ?_⟩
        simp only [skipM, if_neg hn, h2, List.length_cons]; omega
      · refine .inr ⟨J + 1, ?_, by simpa using h2, ?_, by simpa using h4⟩
        · unfold Lib.indexByte
          rw [hb, h1]
          have : ((J : Int) == -1) = false := by rw [beq_eq_false_iff_ne]; omega
          simp [this]
        · simp only [skipM, if_neg hn, h3, List.drop_succ_cons]; omega

theorem has_hash (l : List UInt8) : Lib.hasPrefix l [35] = match l with
    | [] => false
    | c :: _ => c == 35 := by
  unfold Lib.hasPrefix
  cases l with
  | nil => rfl
  | cons c r =>
    simp only [List.isPrefixOf, Bool.and_true]
    rw [Bool.eq_iff_iff, beq_iff_eq, beq_iff_eq]; exact eq_comm
theorem skip_stop (l : List UInt8) (h : Lib.hasPrefix (l.dropWhile blankB) [35] = false) : skipM false (l.dropWhile blankB) = 0 := by
  have h2 := List.head?_dropWhile_not blankB l
  cases hd : l.dropWhile blankB with
  | nil => rfl
  | cons c r =>
    rw [hd] at h h2
    rw [has_hash] at h
    have hc : ¬ c.toNat = 35 := fun e => by
      have : c = 35 := UInt8.toNat.inj e
      subst this; exact Bool.noConfusion (show true = false from h)
    have hb : blankB c = false := by simpa using h2
    simp only [skipM, hb, if_neg hc]
    rfl
theorem skip_hash (l : List UInt8) (h : Lib.hasPrefix l [35] = true) : skipM false l = skipM true l ∧ l[0]? = some 35 := by
  rw [has_hash] at h
  cases l with
  | nil => cases h
  | cons c r =>
    have hc : c = 35 := by simpa using h
    subst hc
    exact ⟨rfl, rfl⟩
end Lx
namespace Lxw
open Gl Lx Glw

/-- All but block R is as it was. -/
def Apart (R : Nat) (w w' : World) : Prop := w'.os = w.os ∧ w'.tape = w.tape ∧ w'.output = w.output ∧ w.heap.size ≤ w'.heap.size ∧ ∀ k, k < w.heap.size → k ≠ R → w'.heap[k]? = w.heap[k]?
theorem Apart.refl (R : Nat) (w : World) : Apart R w w := ⟨rfl, rfl, rfl, Nat.le_refl _, fun _ _ _ => rfl⟩
theorem Apart.trans {R : Nat} {a b c : World} (h : Apart R a b) (h' : Apart R b c) : Apart R a c :=
  ⟨h'.1.trans h.1, h'.2.1.trans h.2.1, h'.2.2.1.trans h.2.2.1, Nat.le_trans h.2.2.2.1 h'.2.2.2.1, fun k hk hn => (h'.2.2.2.2 k (Nat.lt_of_lt_of_le hk h.2.2.2.1) hn).trans (h.2.2.2.2 k hk hn)⟩
theorem Apart.of_below {R : Nat} {a b : World} (h : Below a.heap.size a b) : Apart R a b := ⟨h.os, h.tape, h.output, h.size, fun k hk _ => h.block k hk⟩
theorem Apart.drewN {R : Nat} {a b : World} (h : Apart R a b) (n : Nat) : Apart R a (b.drewN n) := h.trans (.of_below (below_drewN' (Below.refl _ _) n))
theorem Apart.set {R : Nat} {a b : World} (h : Apart R a b) (i : Nat) (v : Value) : Apart R a (b.setCell ⟨R, i, none⟩ v) :=
  h.trans ⟨rfl, rfl, rfl, by simp [World.setCell], fun k _ hn => Below.heap_setCell b ⟨R, i, none⟩ v k hn⟩
theorem Apart.below {R B : Nat} {a b : World} (h : Apart R a b) (hB : B ≤ R) (hs : B ≤ a.heap.size) : Below B a b := ⟨h.1, h.2.1, h.2.2.1, h.2.2.2.1, fun k hk => h.2.2.2.2 k (by omega) (by omega)⟩

/-- The reader: in block R, a text and a place. -/
def Rd (w : World) (R : Nat) (s : ByteArray) (pos : Nat) : Prop := w.heap[R]? = some (.cells #[.string s, .int .i64 pos] 37 (0, 0))
theorem Rd.lt {w : World} {R : Nat} {s : ByteArray} {pos : Nat} (h : Rd w R s pos) : R < w.heap.size := by
  rcases Nat.lt_or_ge R w.heap.size with h' | h'
  · exact h'
  · unfold Rd at h; rw [Array.getElem?_eq_none h'] at h; cases h
theorem Rd.cell0 {w : World} {R : Nat} {s : ByteArray} {pos : Nat} (h : Rd w R s pos) : w.cell? ⟨R, 0, none⟩ = some (.string s) := by rw [Lib.cell_of_heap h]; rfl
theorem Rd.cell1 {w : World} {R : Nat} {s : ByteArray} {pos : Nat} (h : Rd w R s pos) : w.cell? ⟨R, 1, none⟩ = some (.int .i64 pos) := by rw [Lib.cell_of_heap h]; rfl
theorem Rd.frozen {w : World} {R : Nat} {s : ByteArray} {pos : Nat} (h : Rd w R s pos) (i : Nat) : w.frozen? ⟨R, i, none⟩ = false := Lib.frozen_of_heap h i
theorem Rd.below {w w' : World} {R : Nat} {s : ByteArray} {pos : Nat} (h : Rd w R s pos) (hb : Below w.heap.size w w') : Rd w' R s pos := (hb.block R h.lt).trans h
theorem Rd.drewN {w : World} {R : Nat} {s : ByteArray} {pos : Nat} (h : Rd w R s pos) (n : Nat) : Rd (w.drewN n) R s pos := h.below (below_drewN' (Below.refl _ _) n)
theorem Rd.set {w : World} {R : Nat} {s : ByteArray} {pos : Nat} (h : Rd w R s pos) (p : Nat) : Rd (w.setCell ⟨R, 1, none⟩ (.int .i64 p)) R s p := by
  unfold Rd at h ⊢
  simp [World.setCell, Array.getElem?_modify, h]

theorem mk_size (l : List UInt8) : (ByteArray.mk l.toArray).size = l.length := by simp [ByteArray.size]

theorem TrimLeft (s : ByteArray) (w : World) :
    Calls Tryd.prog 34 #[.string s, .string ⟨#[32, 9, 10]⟩] w fun e w' => e = .returned (.string ⟨(s.data.toList.dropWhile blankB).toArray⟩) ∧ Below w.heap.size w w' :=
  (Any.strings_TrimLeft_laid Tryd.lays161 (by kernel_rfl) s ⟨#[32, 9, 10]⟩ w (by decide) (ascii_of_all (by decide))).mono fun _ _ ⟨h1, h2⟩ => ⟨by rw [h1]; exact congrArg (fun l => Ending.returned (.string ⟨List.toArray l⟩)) (trim_blank _), h2⟩

set_option maxHeartbeats 2000000 in
set_option maxRecDepth 100000 in
theorem skip (R : Nat) (s : ByteArray) (pos0 : Nat) (w : World) (hs : s.size ≤ 35184372088832) (h0 : pos0 ≤ s.size) (hR : Rd w R s pos0) :
    Calls Tryd.prog 21 #[.pointer (some ⟨R, 0, none⟩)] w fun e w' => e = .returned (.tuple #[]) ∧ Rd w' R s (pos0 + skipM false (s.data.toList.drop pos0)) ∧ Apart R w w' := by
  obtain ⟨T, hT⟩ : ∃ T, pos0 + skipM false (s.data.toList.drop pos0) = T := ⟨_, rfl⟩
  rw [hT]
  have HR := Lib.hid hR
  clear hR
  go_enter Tryd.func21, Tryd.ntmps21
  go_wp2
  go_loopw [] (fun wr => ∃ pos : Nat, Rd wr R s pos ∧ Apart R w wr ∧ pos ≤ s.size ∧ pos + skipM false (s.data.toList.drop pos) = T) (fun wr => s.size - (intOf ((wr.cell? ⟨R, 1, none⟩).getD undef)).toNat)
  case atStart => exact ⟨pos0, HR.out, Apart.refl _ _, h0, hT⟩
  case round =>
    clear hT h0 HR
    obtain ⟨pos, hR, hap, hle, hT⟩ := hrel
    have HT := Lib.hid hT
    have HA := Lib.hid hap
    clear hT hap
    have c0 := hR.cell0
    have c1 := hR.cell1
    have HR := Lib.hid hR
    clear hR
    have d1 : (0 : Int) ≤ pos := by omega
    have d2 : (pos : Int) ≤ s.size := by omega
    go_wp2
    go_quiet (fail)
    have hz := Lib.tail_size s pos
    have hzd := ext_tail s pos
    generalize s.extract pos s.size = Z at hz hzd ⊢
    have HZ := Lib.hid hz
    have HZD := Lib.hid hzd
    clear hz hzd
    go_wp2_with fail
    refine (TrimLeft Z _).mono ?_
    rintro e w1 ⟨rfl, b1⟩
    have R1 := Lib.hid ((HR.out.drewN _).below b1)
    have A1 := Lib.hid ((HA.out.drewN _).trans (.of_below b1))
    clear b1
    have hlb := len_blanks (s.data.toList.drop pos)
    have hsb := skip_blanks (s.data.toList.drop pos)
    have hdb := drop_blanks (s.data.toList.drop pos)
    rw [List.drop_drop] at hdb
    rw [HZD.out]
    have hz := HZ.out
    rw [List.length_drop, size_data] at hlb
    have HST := Lib.hid (skip_stop (s.data.toList.drop pos))
    rw [← hdb] at hsb hlb HST ⊢
    obtain ⟨B, hB⟩ : ∃ B, ((s.data.toList.drop pos).takeWhile blankB).length = B := ⟨_, rfl⟩
    rw [hB] at hlb hsb HST ⊢
    have hys : (⟨(s.data.toList.drop (pos + B)).toArray⟩ : ByteArray).size = (s.data.toList.drop (pos + B)).length := mk_size _
    generalize (⟨(s.data.toList.drop (pos + B)).toArray⟩ : ByteArray) = Y at hys ⊢
    obtain ⟨P, hP⟩ : ∃ P, pos + B = P := ⟨_, rfl⟩
    rw [hP] at hsb hlb hys HST
    have hyl : Y.size + B = s.size - pos := by omega
    have hPl : P ≤ s.size := by omega
    have hT2 : P + skipM false (s.data.toList.drop P) = T := by have := HT.out; omega
    have HT2 := Lib.hid hT2
    have hPp : pos ≤ P := by omega
    have c0' := R1.out.cell0
    have c1' := R1.out.cell1
    have f1' := R1.out.frozen 1
    have k1 : IntKind.i64.wrap ((Z.size : Int) - (Y.size : Int)) = (B : Int) := by rw [IntWalk.i64_in _ (by omega)]; omega
    have k2 : IntKind.i64.wrap ((pos : Int) + (B : Int)) = (P : Int) := by rw [IntWalk.i64_in _ (by omega)]; omega
    clear hT2 hsb hlb hys hdb hB c0 c1 hyl hz
    dsimp only
    go_wp2_with fail
    have R2 := R1.out.set P
    have A2 := Lib.hid (A1.out.set 1 (.int .i64 P))
    obtain ⟨w2, hw2⟩ : ∃ w2, w1.setCell ⟨R, 1, none⟩ (.int .i64 P) = w2 := ⟨_, rfl⟩
    rw [hw2] at R2 A2 ⊢
    clear hw2 c0' c1' f1' k1 k2
    have c0 := R2.cell0
    have c1 := R2.cell1
    have d3 : (0 : Int) ≤ P := by omega
    have d4 : (P : Int) ≤ s.size := by omega
    have hpx := fun w => Tryd.strings_HasPrefix (s.extract P s.size) ⟨#[35]⟩ w
    have hix := fun w => Tryd.strings_IndexByte (s.extract P s.size) 10 w
    rw [ext_tail] at hpx hix
    obtain ⟨V, hV⟩ : ∃ V, Lib.hasPrefix (s.data.toList.drop P) [35] = V := ⟨_, rfl⟩
    have hpx' : ∀ w, Calls Tryd.prog 35 #[.string (s.extract P s.size), .string ⟨#[35]⟩] w fun e w' => e = .returned (.bool V) ∧ w' = w := by rw [← hV]; exact hpx
    have HV := Lib.hid hV
    have HPX := Lib.hid hpx'
    have HIX := Lib.hid hix
    have HR2 := Lib.hid R2
    clear hpx hpx' hix hV R2
    cases V with
    | false =>
      have h0 := HST.out HV.out
      have hPT : P = T := by have := HT2.out; omega
      subst hPT
      clear h0
      go_quiet ((go_at_call 35; exact Calls.quiet_of_same (HPX.out _)))
      go_wp2
      refine bodyPost_ret (results_none rfl _ _ _) rfl ?_
      exact ⟨rfl, HR2.out.drewN _, A2.out.drewN _⟩
    | true =>
      obtain ⟨h1, h35⟩ := skip_hash _ HV.out
      go_quiet ((go_at_call 35; exact Calls.quiet_of_same (HPX.out _)))
      have R3 := HR2.out.drewN nq
      have A3 := Lib.hid (A2.out.drewN nq)
      generalize w2.drewN nq = w3 at R3 A3 ⊢
      clear c0 c1
      have c0 := R3.cell0
      have c1 := R3.cell1
      have HR3 := Lib.hid R3
      clear R3
      rcases skip_remark (s.data.toList.drop P) with ⟨hJ, hk⟩ | ⟨J, hJ, hJl, hk, h10⟩
      · have hT3 : T = s.size := by
          have := HT2.out
          rw [h1, hk, List.length_drop, size_data] at this
          omega
        have HT3 := Lib.hid hT3
        have hlt : P < s.size := by
          rcases Nat.lt_or_ge P s.size with h | h
          · exact h
          · rw [List.drop_eq_nil_of_le (by rw [size_data]; exact h)] at h35; cases h35
        have hix2 : ∀ w, Calls Tryd.prog 36 #[.string (s.extract P s.size), .int .u8 10] w fun e w' => e = .returned (.int .i64 (-1)) ∧ w' = w := by rw [← hJ]; exact HIX.out
        have HIX2 := Lib.hid hix2
        clear hix2 hJ hk h1 h35 hT3
        go_wp2
        go_quiet ((go_at_call 36; exact Calls.quiet_of_same (HIX2.out _)))
        have R4 := HR3.out.drewN nq
        have A4 := Lib.hid (A3.out.drewN nq)
        generalize w3.drewN nq = w4 at R4 A4 ⊢
        clear c0 c1
        have c0 := R4.cell0
        have c1 := R4.cell1
        have f1 := R4.frozen 1
        have HR4 := Lib.hid R4
        clear R4
        go_wp2
        go_roundw
        case rel => exact ⟨s.size, HR4.out.set s.size, A4.out.set 1 _, Nat.le_refl _, by rw [skip_end _ s _ (Nat.le_refl _), HT3.out]; rfl⟩
        case measure =>
          have := (HR4.out.set s.size).cell1
          rw [this, (show wr.cell? ⟨R, 1, none⟩ = some (.int .i64 pos) from HR.out.cell1)]
          simp [intOf]; omega
      · rw [List.length_drop, size_data] at hJl
        have hJ1 : 0 < J := by
          rcases Nat.eq_zero_or_pos J with h | h
          · subst h; rw [h35] at h10; exact absurd (Option.some.inj h10) (by decide)
          · exact h
        have hT3 : P + J + skipM false (s.data.toList.drop (P + J)) = T := by
          have := HT2.out
          rw [h1, hk, List.drop_drop] at this
          omega
        obtain ⟨M, hM⟩ : ∃ M, P + J = M := ⟨_, rfl⟩
        rw [hM] at hT3
        have HT3 := Lib.hid hT3
        have hMs : M ≤ s.size := by omega
        have hPM : pos < M := by omega
        have k1 : IntKind.i64.wrap ((P : Int) + (J : Int)) = (M : Int) := by rw [IntWalk.i64_in _ (by omega)]; omega
        have k2 : (0 : Int) ≤ J := by omega
        have hix2 : ∀ w, Calls Tryd.prog 36 #[.string (s.extract P s.size), .int .u8 10] w fun e w' => e = .returned (.int .i64 J) ∧ w' = w := by rw [← hJ]; exact HIX.out
        have HIX2 := Lib.hid hix2
        clear hix2 hJ hk h1 h35 hT3 h10 hJl hM
        go_wp2
        go_quiet ((go_at_call 36; exact Calls.quiet_of_same (HIX2.out _)))
        have R4 := HR3.out.drewN nq
        have A4 := Lib.hid (A3.out.drewN nq)
        generalize w3.drewN nq = w4 at R4 A4 ⊢
        clear c0 c1
        have c0 := R4.cell0
        have c1 := R4.cell1
        have f1 := R4.frozen 1
        have HR4 := Lib.hid R4
        clear R4
        go_wp2
        go_roundw
        case rel => exact ⟨M, HR4.out.set M, A4.out.set 1 _, hMs, HT3.out⟩
        case measure =>
          have := (HR4.out.set M).cell1
          rw [this, (show wr.cell? ⟨R, 1, none⟩ = some (.int .i64 pos) from HR.out.cell1)]
          simp [intOf]; omega
end Lxw
end Go.Proofs.YtelejpajnemmfaaDoor
