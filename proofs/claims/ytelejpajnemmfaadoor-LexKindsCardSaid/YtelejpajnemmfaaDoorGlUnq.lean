/-
  DERIVED. READING A QUOTED TEXT, WALKED: the program's (a builder, rune by rune).
-/
import Derived.Test.YtelejpajnemmfaaDoorGlEscaped
namespace Go.Proofs.YtelejpajnemmfaaDoor
open Go.RowKit
namespace Glw
open Gl

theorem escL_le {l : List UInt8} {x : UInt8} {m : Nat} (h : escL l = some (x, m)) : 1 ≤ m ∧ m ≤ l.length ∧ m ≤ 3 := by
  cases l with
  | nil => simp [escL] at h
  | cons c r =>
    unfold escL at h
    by_cases h1 : c.toNat = 92 ∨ c.toNat = 34
    · simp only [if_pos h1, Option.some.injEq, Prod.mk.injEq] at h; obtain ⟨_, rfl⟩ := h; simp
    · simp only [if_neg h1] at h
      by_cases h2 : c.toNat = 110
      · simp only [if_pos h2, Option.some.injEq, Prod.mk.injEq] at h; obtain ⟨_, rfl⟩ := h; simp
      · simp only [if_neg h2] at h
        by_cases h3 : c.toNat = 116
        · simp only [if_pos h3, Option.some.injEq, Prod.mk.injEq] at h; obtain ⟨_, rfl⟩ := h; simp
        · simp only [if_neg h3] at h
          by_cases h4 : c.toNat = 120
          · simp only [if_pos h4] at h
            match r, h with
            | [], h => simp at h
            | [_], h => simp at h
            | a :: b :: _, h =>
              simp only [] at h
              cases hA : hexV a with
              | none => rw [hA] at h; simp at h
              | some va =>
                cases hB : hexV b with
                | none => rw [hA, hB] at h; simp at h
                | some vb => rw [hA, hB] at h; simp only [Option.some.injEq, Prod.mk.injEq] at h; obtain ⟨_, rfl⟩ := h; simp
          · simp only [if_neg h4] at h; simp at h

theorem unq_pos (s : ByteArray) (pos : Nat) (h : pos < s.size) : unqL (s.data.toList.drop pos) =
    if (s.get! pos).toNat = 34 then some ([], 1)
    else if longL (s.data.toList.drop pos) = 0 ∨ (s.get! pos).toNat < 32 ∨ (s.get! pos).toNat = 127 then none
    else if (s.get! pos).toNat = 92 then
      match escL (s.data.toList.drop (pos + 1)) with
      | none => none
      | some (x, m) => (unqL (s.data.toList.drop (pos + 1 + m))).map fun p => (x :: p.1, 1 + m + p.2)
    else (unqL (s.data.toList.drop (pos + longL (s.data.toList.drop pos)))).map fun p => ((s.data.toList.drop pos).take (longL (s.data.toList.drop pos)) ++ p.1, longL (s.data.toList.drop pos) + p.2) := by
  have hd := drop_cons s pos h
  have e : unqL (s.data.toList.drop pos) = unqL (s.get! pos :: s.data.toList.drop (pos + 1)) := by rw [hd]
  rw [e, unqL_cons, ← hd]
  simp only [List.drop_drop]
  rfl

theorem fin_map (acc x : List UInt8) (pos n : Nat) (o : Option (List UInt8 × Nat)) : finL acc pos (o.map fun p => (x ++ p.1, n + p.2)) = finL (acc ++ x) (pos + n) o := by
  cases o with
  | none => rfl
  | some p => simp [finL]; omega
theorem fin_map1 (acc : List UInt8) (x : UInt8) (pos n : Nat) (o : Option (List UInt8 × Nat)) : finL acc pos (o.map fun p => (x :: p.1, n + p.2)) = finL (acc ++ [x]) (pos + n) o := fin_map acc [x] pos n o

theorem unquote_open (s : ByteArray) (h : 0 < s.size) (hc : (s.get! 0).toNat = 34) : unquoteL s.data.toList = finL [] 1 (unqL (s.data.toList.drop 1)) := by
  unfold unquoteL
  rw [if_pos]
  rw [get_data s 0 h]
  congr 1
  exact UInt8.toNat_inj.1 hc
theorem unquote_shut (s : ByteArray) (h : s.size = 0 ∨ (s.get! 0).toNat ≠ 34) : unquoteL s.data.toList = ([], 0, 2) := by
  unfold unquoteL
  rw [if_neg]
  intro hh
  rcases h with h | h
  · rw [data_nil s h] at hh; simp at hh
  · by_cases h0 : 0 < s.size
    · rw [get_data s 0 h0] at hh
      apply h
      rw [Option.some.inj hh]; rfl
    · rw [data_nil s (by omega)] at hh; simp at hh
theorem prefix_open (s : ByteArray) (h : 0 < s.size) (hc : (s.get! 0).toNat = 34) : Lib.hasPrefix s.data.toList [34] = true := by
  rw [data_cons s h, UInt8.toNat_inj.1 (show (s.get! 0).toNat = (34 : UInt8).toNat from hc)]
  simp [Lib.hasPrefix]
theorem prefix_shut (s : ByteArray) (h : s.size = 0 ∨ (s.get! 0).toNat ≠ 34) : Lib.hasPrefix s.data.toList [34] = false := by
  by_cases h0 : 0 < s.size
  · rw [data_cons s h0]
    have hc : (s.get! 0).toNat ≠ 34 := by rcases h with h | h; omega; exact h
    have : (34 : UInt8) ≠ s.get! 0 := fun e => hc (by rw [← e]; rfl)
    show (((34 : UInt8) == s.get! 0) && _) = false
    rw [beq_eq_false_iff_ne.2 this]
    rfl
  · rw [data_nil s (by omega)]
    rfl

theorem HasQuote (s : ByteArray) (w : World) : Calls Tryd.prog 35 #[.string s, .string ⟨#[34]⟩] w fun e w' => e = .returned (.bool (Lib.hasPrefix s.data.toList [34])) ∧ w = w' :=
  (Tryd.strings_HasPrefix s ⟨#[34]⟩ w).mono fun _ _ ⟨he, hw⟩ => ⟨he, hw.symm⟩

/-- What a quoted text comes to, as the three results. -/
def unqRes (A : List UInt8 × Int × Int) : Ending := .returned (.tuple #[.string ⟨A.1.toArray⟩, .int .i64 A.2.1, .int .i64 A.2.2])
theorem unqRes_mk (A : List UInt8 × Int × Int) : unqRes A = .returned (.tuple #[.string ⟨A.1.toArray⟩, .int .i64 A.2.1, .int .i64 A.2.2]) := rfl

/-- What holds at the head of each round. -/
def URel (s : ByteArray) (A : List UInt8 × Int × Int) (w : World) (v : Value) (wr : World) : Prop :=
  ∃ (pos : Nat) (acc : List UInt8), v = .int .i64 pos ∧ Bld.Is w.heap.size w.heap.size (Lib.byteCells acc) wr ∧ Below w.heap.size w wr ∧ finL acc pos (unqL (s.data.toList.drop pos)) = A ∧ acc.length ≤ pos ∧ pos ≤ s.size

theorem URel_rune (s : ByteArray) (A : List UInt8 × Int × Int) (w : World) (pos : Nat) (acc : List UInt8) (wx : World) (N : Nat) (R : Int) (v : Value) (hp : pos < s.size) (hv : v = .int .i64 ((pos : Int) + N))
    (hN : stepL (s.data.toList.drop pos) = N) (hR : Lib.encodeRune R = (s.data.toList.drop pos).take (longL (s.data.toList.drop pos))) (hL : longL (s.data.toList.drop pos) ≠ 0)
    (hc : ¬ (s.get! pos).toNat = 34 ∧ ¬ ((s.get! pos).toNat < 32 ∨ (s.get! pos).toNat = 127) ∧ ¬ (s.get! pos).toNat = 92)
    (hfin : finL acc pos (unqL (s.data.toList.drop pos)) = A) (hal : acc.length ≤ pos)
    (hI : Bld.At w.heap.size w.heap.size (Lib.byteCells (acc ++ Lib.encodeRune R)) wx) (hb : Below w.heap.size w wx) : URel s A w v wx := by
  have hs : N = longL (s.data.toList.drop pos) := by rw [← hN]; unfold stepL; omega
  refine ⟨pos + N, _, by rw [hv]; rfl, .inr hI, hb, ?_, ?_, by rw [← hN]; exact step_le s pos hp⟩
  · rw [unq_pos s pos hp, if_neg hc.1, if_neg (by omega), if_neg hc.2.2, fin_map] at hfin
    rw [hR, hs]; exact hfin
  · rw [List.length_append, hR, List.length_take]; omega
theorem URel_esc (s : ByteArray) (A : List UInt8 × Int × Int) (w : World) (pos : Nat) (acc : List UInt8) (wx : World) (x : UInt8) (m : Nat) (v : Value) (hp : pos < s.size) (hv : v = .int .i64 ((pos : Int) + (1 + m)))
    (hc : (s.get! pos).toNat = 92) (he : escL (s.data.toList.drop (pos + 1)) = some (x, m))
    (hfin : finL acc pos (unqL (s.data.toList.drop pos)) = A) (hal : acc.length ≤ pos)
    (hI : Bld.At w.heap.size w.heap.size (Lib.byteCells (acc ++ [x])) wx) (hb : Below w.heap.size w wx) : URel s A w v wx := by
  have hm := escL_le he
  rw [List.length_drop, size_data] at hm
  have hl : longL (s.data.toList.drop pos) = 1 := by
    rcases decode_cases s pos hp with ⟨_, h2, _⟩ | ⟨h1, _, _⟩ | ⟨_, h2, _⟩
    · omega
    · exact h1
    · omega
  refine ⟨pos + (1 + m), _, by rw [hv]; rfl, .inr hI, hb, ?_, ?_, by omega⟩
  · rw [unq_pos s pos hp, if_neg (by omega), if_neg (by omega), if_pos hc, he] at hfin
    simp only [] at hfin
    rw [fin_map1] at hfin
    rw [show pos + (1 + m) = pos + 1 + m from by omega]
    rw [show pos + (1 + m) = pos + 1 + m from by omega] at hfin
    exact hfin
  · rw [List.length_append]; simp; omega
theorem UFail (s : ByteArray) (A : List UInt8 × Int × Int) (pos : Nat) (acc : List UInt8) (hfin : finL acc pos (unqL (s.data.toList.drop pos)) = A) (h : unqL (s.data.toList.drop pos) = none) : A = ([], 0, 2) := by
  rw [h] at hfin; exact hfin.symm

theorem ext_tail (s : ByteArray) (k : Nat) : (s.extract k s.size).data.toList = s.data.toList.drop k := by
  rw [ext_data, List.take_of_length_le (by rw [List.length_drop, size_data]; exact Nat.le_refl _)]
theorem EscTail (s : ByteArray) (k : Nat) (w : World) (hs : s.size ≤ 35184372088832) :
    Calls Tryd.prog 65 #[.string (s.extract k s.size)] w fun e w' => e = .returned (.tuple #[.int .u8 (escT (s.data.toList.drop k)).1, .int .i64 (escT (s.data.toList.drop k)).2]) ∧ Below w.heap.size w w' := by
  have := escape (s.extract k s.size) w (by rw [Lib.tail_size]; omega)
  rw [ext_tail] at this
  exact this

set_option maxHeartbeats 4000000 in
set_option maxRecDepth 100000 in
theorem Unquote (s : ByteArray) (w : World) (hT : Tabs w) (hs : s.size ≤ 17592186044416) :
    Calls Tryd.prog 37 #[.string s] w fun e w' => e = unqRes (unquoteL s.data.toList) ∧ Below w.heap.size w w' := by
  by_cases ho : 0 < s.size ∧ (s.get! 0).toNat = 34
  · have hpre := prefix_open s ho.1 ho.2
    have hI0 : Bld.Is w.heap.size w.heap.size (Lib.byteCells []) (w.alloc (.cells #[.pointer none, .slice none 0 0] 65)) := Lib.IsBuilderF.of (Lib.fresh_isBuilder _ _ w)
    have hop := unquote_open s ho.1 ho.2
    obtain ⟨A, hA⟩ : ∃ A, unquoteL s.data.toList = A := ⟨_, rfl⟩
    rw [hA] at hop
    rw [hA]
    have Hop := Lib.hid hop.symm
    have h1s : 1 ≤ s.size := by omega
    have HT := Lib.hid hT
    clear hT hA hop ho
    go_enter Tryd.func37, Tryd.ntmps37
    go_wp2_with (go_at_call 35; refine (HasQuote _ _).mono ?_; rintro e w' ⟨rfl, rfl⟩)
    go_loopw [6] (fun v wr => URel s A w v wr) (fun v _ => s.size - (intOf v).toNat)
    case atStart => exact ⟨1, [], rfl, hI0, (Below.refl _ _).alloc (Nat.le_refl _) _, Hop.out, by simp, h1s⟩
    case round =>
      obtain ⟨pos, acc, rfl, hI, hbw, hfin, hal, hle⟩ := hrel
      clear hI0
      have Hfin := Lib.hid hfin
      clear hfin
      have hbs := hbw.size
      by_cases hp : pos < s.size
      · have hD := DecodeTail s pos wr (Utf8Tabs_below HT.out hbw) hp
        have hdN := decode_step s pos hp
        rw [hdN] at hD
        have hcs := decode_cases s pos hp
        have hst := stepL_pos (s.data.toList.drop pos)
        have hst2 := step_le s pos hp
        have hRle := decode_le s pos
        have HR := Lib.hid (URel_rune s A w pos acc)
        have HE := Lib.hid (URel_esc s A w pos acc)
        have HU := Lib.hid (unq_pos s pos hp)
        obtain ⟨N, hN⟩ : ∃ N, stepL (s.data.toList.drop pos) = N := ⟨_, rfl⟩
        obtain ⟨R, hR⟩ : ∃ R, (Utf8.decode s pos).1 = R := ⟨_, rfl⟩
        rw [hR] at hD hRle hcs
        rw [hN] at hD hst hst2
        have Hcs := Lib.hid hcs
        have HN := Lib.hid hN
        have HRR := Lib.hid hR
        clear hcs hN hR hdN
        obtain ⟨c, hc⟩ : ∃ c, s.get! pos = c := ⟨_, rfl⟩
        have HC := Lib.hid hc
        clear hc
        have h2s : (pos : Int) + 1 ≤ s.size := by omega
        go_wp2_with (go_at_call 51; refine hD.mono ?_)
        rintro e W2 ⟨rfl, hb2⟩
        have hI2 := Is_below hI hb2
        have hbw2 := hbw.trans (hb2.mono hbs)
        have hbs2 := hbw2.size
        clear hD hI hb2
        by_cases h34 : c.toNat = 34
        · obtain rfl : R = 34 := by
            rcases Hcs.out with ⟨_, h2, _⟩ | ⟨_, _, h3⟩ | ⟨_, h2, _⟩
            · rw [HC.out] at h2; omega
            · have := congrArg Prod.fst h3; rw [HRR.out, HC.out] at this; simp only [] at this; omega
            · rw [HC.out] at h2; omega
          have H34 := Lib.hid h34
          clear h34
          go_wp2_with (go_at_call 55; refine (Tryd.Builder_String_any_k w.heap.size w.heap.size acc _ hI2 hbs2).mono ?_)
          rintro e W4 ⟨rfl, _, b4, _⟩
          go_wp2
          go_ret3
          have hf := Hfin.out
          rw [HU.out, if_pos (by rw [HC.out]; exact H34.out)] at hf
          refine ⟨?_, hbw2.trans b4⟩
          rw [← hf, unqRes_mk]
          simp [finL]
        · have n34 : R ≠ 34 := by
            rcases Hcs.out with ⟨_, _, h3⟩ | ⟨_, _, h3⟩ | ⟨_, _, h3, _⟩
            · have := congrArg Prod.fst h3; rw [HRR.out] at this; simp only [] at this; omega
            · have := congrArg Prod.fst h3; rw [HRR.out, HC.out] at this; simp only [] at this; omega
            · omega
          have q34 : ((R : Int) == 34) = false := by rw [beq_eq_false_iff_ne]; omega
          have H34 := Lib.hid h34
          have cl := c.toNat_lt
          clear h34 n34
          by_cases hod : oddZ R N = true
          · have hA : A = ([], 0, 2) := by
              refine UFail s A pos acc Hfin.out ?_
              rw [HU.out, HC.out, if_neg H34.out, if_pos]
              rcases Hcs.out with ⟨h1, _, _⟩ | ⟨_, _, h3⟩ | ⟨h1, h2, h3, h4, _⟩
              · exact .inl h1
              · have e1 := congrArg Prod.fst h3
                rw [HRR.out, HC.out] at e1
                simp only [] at e1
                simp only [oddZ, Bool.or_eq_true, Bool.and_eq_true, decide_eq_true_eq] at hod
                omega
              · rw [decode_step s pos hp, HN.out] at h4
                simp only [oddZ, Bool.or_eq_true, Bool.and_eq_true, decide_eq_true_eq] at hod
                omega
            subst hA
            go_wp2_with (go_at_call 54; refine (isOdd _ _ _).mono ?_; rintro e w' ⟨rfl, rfl⟩)
            go_ret3
            exact ⟨rfl, hbw2⟩
          · have hod' : oddZ R N = false := by simpa using hod
            have hL : longL (s.data.toList.drop pos) ≠ 0 := by
              simp only [oddZ, Bool.or_eq_true, Bool.and_eq_true, decide_eq_true_eq] at hod
              intro h0
              rcases Hcs.out with ⟨_, _, h3⟩ | ⟨h1, _, _⟩ | ⟨h1, _, _⟩
              · have e1 := congrArg Prod.fst h3
                have e2 := congrArg Prod.snd h3
                rw [HRR.out] at e1
                rw [decode_step s pos hp, HN.out] at e2
                simp only [] at e1 e2
                omega
              · omega
              · omega
            have hlo : ¬ (c.toNat < 32 ∨ c.toNat = 127) := by
              simp only [oddZ, Bool.or_eq_true, Bool.and_eq_true, decide_eq_true_eq] at hod
              rcases Hcs.out with ⟨_, h2, _⟩ | ⟨_, h2, h3⟩ | ⟨_, h2, _⟩
              · rw [HC.out] at h2; omega
              · have e1 := congrArg Prod.fst h3
                rw [HRR.out, HC.out] at e1
                simp only [] at e1
                omega
              · rw [HC.out] at h2; omega
            have HL := Lib.hid hL
            have HLo := Lib.hid hlo
            clear hod hL hlo
            by_cases h92 : c.toNat = 92
            · have e92 : R = 92 ∧ N = 1 := by
                rcases Hcs.out with ⟨_, h2, _⟩ | ⟨_, _, h3⟩ | ⟨_, h2, _⟩
                · rw [HC.out] at h2; omega
                · have e1 := congrArg Prod.fst h3
                  have e2 := congrArg Prod.snd h3
                  rw [HRR.out, HC.out] at e1
                  rw [decode_step s pos hp, HN.out] at e2
                  simp only [] at e1 e2
                  omega
                · rw [HC.out] at h2; omega
              obtain ⟨rfl, rfl⟩ := e92
              have H92 := Lib.hid h92
              clear h92
              have hE := EscTail s (pos + 1) W2 (by omega)
              cases he : escL (s.data.toList.drop (pos + 1)) with
              | none =>
                have hA : A = ([], 0, 2) := by
                  refine UFail s A pos acc Hfin.out ?_
                  have := HLo.out
                  have := HL.out
                  rw [HU.out, HC.out, if_neg H34.out, if_neg (by omega), if_pos H92.out, he]
                subst hA
                rw [show escT (s.data.toList.drop (pos + 1)) = (0, 0) from by unfold escT; rw [he]] at hE
                clear he
                have HEs := Lib.hid hE
                clear hE
                go_wp2_with (first | (go_at_call 54; refine (isOdd _ _ _).mono ?_; rintro e w' ⟨rfl, rfl⟩) | (go_at_call 65; refine HEs.out.mono ?_))
                rintro e W4 ⟨rfl, b4⟩
                go_wp2
                go_ret3
                exact ⟨rfl, hbw2.trans (b4.mono hbs2)⟩
              | some p =>
                obtain ⟨x, m⟩ := p
                have hm := escL_le he
                rw [List.length_drop, size_data] at hm
                have hm0 : ((m : Int) == 0) = false := by rw [beq_eq_false_iff_ne]; omega
                rw [show escT (s.data.toList.drop (pos + 1)) = ((x.toNat : Int), (m : Int)) from by unfold escT; rw [he]] at hE
                have He := Lib.hid he
                clear he
                have HEs := Lib.hid hE
                clear hE
                go_wp2_with (first | (go_at_call 54; refine (isOdd _ _ _).mono ?_; rintro e w' ⟨rfl, rfl⟩) | (go_at_call 65; refine HEs.out.mono ?_))
                rintro e W4 ⟨rfl, b4⟩
                have hI4 := Is_below hI2 b4
                have hbw4 := hbw2.trans (b4.mono hbs2)
                have hbs4 := hbw4.size
                clear hI2 b4
                go_wp2_with (go_at_call 50; refine (Bld.WriteByte w.heap.size w.heap.size _ x.toNat _ hI4 (by rw [Lib.byteCells_length]; omega) hbs4).mono ?_)
                rintro e W5 ⟨rfl, h5, b5, _⟩
                rw [cells_one] at h5
                go_wp2
                go_roundw
                case rel => exact HE.out _ x m _ hp rfl (by rw [HC.out]; exact H92.out) He.out Hfin.out hal h5 (hbw4.trans b5)
                case measure => simp [intOf]; omega
            · have n92 : R ≠ 92 := by
                rcases Hcs.out with ⟨_, _, h3⟩ | ⟨_, _, h3⟩ | ⟨_, _, h3, _⟩
                · have := congrArg Prod.fst h3; rw [HRR.out] at this; simp only [] at this; omega
                · have := congrArg Prod.fst h3; rw [HRR.out, HC.out] at this; simp only [] at this; omega
                · omega
              have q92 : ((R : Int) == 92) = false := by rw [beq_eq_false_iff_ne]; omega
              have hER : Lib.encodeRune R = (s.data.toList.drop pos).take (longL (s.data.toList.drop pos)) := by
                rcases Hcs.out with ⟨h1, _, _⟩ | ⟨h1, h2, h3⟩ | ⟨_, _, _, _, h5⟩
                · exact absurd h1 HL.out
                · have e1 := congrArg Prod.fst h3
                  rw [HRR.out, HC.out] at e1
                  simp only [] at e1
                  rw [HC.out] at h2
                  rw [h1, take_one s pos hp, HC.out, e1, encode_ascii c h2]
                · exact h5
              have HER := Lib.hid hER
              have H92 := Lib.hid h92
              clear hER h92 n92
              go_wp2_with (first | (go_at_call 54; refine (isOdd _ _ _).mono ?_; rintro e w' ⟨rfl, rfl⟩) | (go_at_call 52; refine (Bld.WriteRune w.heap.size w.heap.size _ R (by omega) (by omega) _ hI2 (by rw [Lib.byteCells_length]; omega) hbs2).mono ?_))
              rintro e W3 ⟨rfl, h3, b3, _⟩
              rw [cells_rune] at h3
              go_wp2
              go_roundw
              case rel => exact HR.out _ N R _ hp rfl HN.out HER.out HL.out (by rw [HC.out]; exact ⟨H34.out, HLo.out, H92.out⟩) Hfin.out hal h3 (hbw2.trans b3)
              case measure => simp [intOf]; omega
      · have hge : s.size ≤ pos := by omega
        have hA : A = ([], 0, 2) := by
          refine UFail s A pos acc Hfin.out ?_
          rw [List.drop_eq_nil_of_le (by rw [size_data]; exact hge)]; rfl
        subst hA
        clear hp
        go_wp2
        go_ret3
        exact ⟨rfl, hbw⟩
  · have hsh : s.size = 0 ∨ (s.get! 0).toNat ≠ 34 := by
      rcases Nat.eq_zero_or_pos s.size with h | h
      · exact .inl h
      · exact .inr (fun e => ho ⟨h, e⟩)
    have hpre := prefix_shut s hsh
    rw [unquote_shut s hsh]
    clear hsh ho hT
    go_enter Tryd.func37, Tryd.ntmps37
    go_wp2_with (go_at_call 35; refine (HasQuote _ _).mono ?_; rintro e w' ⟨rfl, rfl⟩)
    go_ret3
    exact ⟨rfl, Below.refl _ _⟩
end Glw
end Go.Proofs.YtelejpajnemmfaaDoor
