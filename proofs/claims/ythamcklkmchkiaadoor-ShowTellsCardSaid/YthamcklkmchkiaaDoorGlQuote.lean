/-
  DERIVED. QUOTING, WALKED: the program's (a builder, rune by rune).
-/
import Derived.Test.YthamcklkmchkiaaDoorGlPlace
import Derived.Test.YthamcklkmchkiaaDoorBld
import Derived.Lib.RuneCountTail
namespace Go.Proofs.YthamcklkmchkiaaDoor
open Go.RowKit
namespace Glw
open Gl

theorem BuilderAtF_below {T e : TypeId} {B b : Nat} {p : Value} {bs : List Value} {W W' : World} (h : Lib.BuilderAtF T e B b p bs W) (hb : Below W.heap.size W W') : Lib.BuilderAtF T e B b p bs W' := by
  have hlt := h.lt
  obtain ⟨hB, v, hv, hown, hne⟩ := h
  exact ⟨hB, v, (hb.block b hlt).trans hv, hown.kept (row := none) ⟨hb.os, hb.tape, hb.output, hb.size, fun k hk _ => hb.block k hk⟩ (Classical.em _), hne⟩
theorem Is_below {B b : Nat} {bs : List Value} {W W' : World} (h : Bld.Is B b bs W) (hb : Below W.heap.size W W') : Bld.Is B b bs W' :=
  h.elim (fun x => .inl (BuilderAtF_below x hb)) (fun x => .inr (BuilderAtF_below x hb))

abbrev Tabs (w : World) : Prop := Lib.Utf8Tabs 3 4 w

/-- The decoder at a tail. -/
theorem decTail (s : ByteArray) (pos : Nat) (h : pos < s.size) : Lib.decodeGo (s.extract pos s.size) = Utf8.decode s pos := by
  unfold Lib.decodeGo
  rw [Lib.tail_size, if_neg (by omega), Lib.tail_decode, Nat.add_zero]
theorem DecodeTail (s : ByteArray) (pos : Nat) (w : World) (hT : Tabs w) (h : pos < s.size) :
    Calls Tryd.prog 72 #[.string (s.extract pos s.size)] w fun e w' => e = .returned (.tuple #[.int .i32 (Utf8.decode s pos).1, .int .i64 (Utf8.decode s pos).2]) ∧ Below w.heap.size w w' := by
  have := Tryd.utf8_DecodeRuneInString (s.extract pos s.size) w hT
  rw [decTail s pos h] at this
  exact this

/-- What holds at the head of each round: so much has been written, so much is still to come. -/
def QRel (s : ByteArray) (w : World) (kI : Nat) (wr : World) : Prop :=
  ∃ (pos : Nat) (acc : List UInt8), Bld.Is w.heap.size w.heap.size (Lib.byteCells acc) wr ∧ wr.heap[kI]? = some (.stringIter s pos) ∧ Below w.heap.size w wr ∧ acc ++ bodyL (s.data.toList.drop pos) = 34 :: bodyL s.data.toList ∧ acc.length ≤ 4 * pos + 1 ∧ pos ≤ s.size

theorem body_step (s : ByteArray) (pos : Nat) (h : pos < s.size) : bodyL (s.data.toList.drop pos) =
    pieceL (s.get! pos) (longL (s.data.toList.drop pos)) ((s.data.toList.drop pos).take (longL (s.data.toList.drop pos))) ++ bodyL (s.data.toList.drop (pos + stepL (s.data.toList.drop pos))) := by
  have hd := drop_cons s pos h
  have e : bodyL (s.data.toList.drop pos) = bodyL (s.get! pos :: s.data.toList.drop (pos + 1)) := by rw [hd]
  rw [e, bodyL_cons, ← hd, List.drop_drop]

/-- One round of the loop stands so. -/
structure QHead (s : ByteArray) (w : World) (kI pos : Nat) (acc : List UInt8) (wr : World) : Prop where
  isB : Bld.Is w.heap.size w.heap.size (Lib.byteCells acc) wr
  it : wr.heap[kI]? = some (.stringIter s pos)
  below : Below w.heap.size w wr

theorem QHead.size {s : ByteArray} {w : World} {kI pos : Nat} {acc : List UInt8} {wr : World} (h : QHead s w kI pos acc wr) : kI < wr.heap.size := (Array.getElem?_eq_some_iff.1 h.it).1
theorem QHead.next {s : ByteArray} {w : World} {kI pos : Nat} {acc : List UInt8} {wr : World} (h : QHead s w kI pos acc wr) (hk : w.heap.size < kI) (pos' : Nat) : QHead s w kI pos' acc (wr.iterAt kI s pos') :=
  ⟨h.isB.iterAt h.it pos', Lib.iterAt_heap wr kI s pos pos' h.it, Lib.below_iterAt h.below (k := kI) (by omega) s pos'⟩
theorem QHead.mono {s : ByteArray} {w : World} {kI pos : Nat} {acc : List UInt8} {wr wx : World} (h : QHead s w kI pos acc wr) (hb : Below wr.heap.size wr wx) : QHead s w kI pos acc wx :=
  ⟨Is_below h.isB hb, (hb.block kI h.size).trans h.it, h.below.trans (hb.mono h.below.size)⟩
theorem QHead.wrote {s : ByteArray} {w : World} {kI pos : Nat} {acc acc' : List UInt8} {wr wx : World} (h : QHead s w kI pos acc wr) (hk : w.heap.size < kI)
    (h1 : Bld.At w.heap.size w.heap.size (Lib.byteCells acc') wx) (hb : Below w.heap.size wr wx) (hkp : Bld.Kept w.heap.size wr wx) : QHead s w kI pos acc' wx :=
  ⟨.inr h1, hkp.iter h.it (by omega), h.below.trans hb⟩
theorem QHead.tabs {s : ByteArray} {w : World} {kI pos : Nat} {acc : List UInt8} {wr : World} (h : QHead s w kI pos acc wr) (hT : Tabs w) : Tabs wr := Utf8Tabs_below hT h.below
theorem QHead.base {s : ByteArray} {w : World} {kI pos : Nat} {acc : List UInt8} {wr : World} (h : QHead s w kI pos acc wr) : w.heap.size ≤ wr.heap.size := h.below.size

/-- What one round leaves. -/
theorem QRel_next (s : ByteArray) (w : World) (kI pos : Nat) (acc p : List UInt8) (W' : World) (hp : pos < s.size)
    (hacc : acc ++ bodyL (s.data.toList.drop pos) = 34 :: bodyL s.data.toList) (hal : acc.length ≤ 4 * pos + 1)
    (hpc : pieceL (s.get! pos) (longL (s.data.toList.drop pos)) ((s.data.toList.drop pos).take (longL (s.data.toList.drop pos))) = p)
    (hd : QHead s w kI (pos + stepL (s.data.toList.drop pos)) (acc ++ p) W') : QRel s w kI W' := by
  refine ⟨pos + stepL (s.data.toList.drop pos), acc ++ p, hd.isB, hd.it, hd.below, ?_, ?_, step_le s pos hp⟩
  · rw [← hacc, body_step s pos hp, hpc, List.append_assoc]
  · have h1 := pieceL_length (s.get! pos) (longL (s.data.toList.drop pos)) ((s.data.toList.drop pos).take (longL (s.data.toList.drop pos))) (by have := longL_le (s.data.toList.drop pos); simp only [List.length_take]; omega)
    rw [hpc] at h1
    have h2 : p.length ≤ 4 * stepL (s.data.toList.drop pos) := by have := stepL_pos (s.data.toList.drop pos); omega
    rw [List.length_append]
    omega

theorem cells_one (l : List UInt8) (c : UInt8) : Lib.byteCells l ++ [.int .u8 c.toNat] = Lib.byteCells (l ++ [c]) := by rw [Lib.byteCells_append]; rfl
theorem cells_oneZ (l : List UInt8) (z : Int) (c : UInt8) (h : z = c.toNat) : Lib.byteCells l ++ [.int .u8 z] = Lib.byteCells (l ++ [c]) := by rw [h]; exact cells_one l c
theorem cells_rune (l : List UInt8) (r : Int) : Lib.byteCells l ++ Lib.runeCells r = Lib.byteCells (l ++ Lib.encodeRune r) := by rw [Lib.byteCells_append, Lib.byteCells_encodeRune]
theorem cells_str (l : List UInt8) (t : ByteArray) : Lib.byteCells l ++ Lib.strCells t = Lib.byteCells (l ++ t.data.toList) := by rw [Lib.byteCells_append]; rfl
theorem encode_ascii (c : UInt8) (h : c.toNat < 128) : Lib.encodeRune (c.toNat : Int) = [c] := by
  unfold Lib.encodeRune
  rw [Lib.encodeRuneZ_one (by omega) (by omega), List.map_cons, List.map_nil, byte_eq c _ rfl]

theorem fig_hex (n : Nat) (h : n < (ByteArray.mk #[48, 49, 50, 51, 52, 53, 54, 55, 56, 57, 97, 98, 99, 100, 101, 102]).size) :
    ((ByteArray.mk #[48, 49, 50, 51, 52, 53, 54, 55, 56, 57, 97, 98, 99, 100, 101, 102])[n]'h) = hexL n := by
  have H : ∀ n, (h : n < 16) → ((ByteArray.mk #[48, 49, 50, 51, 52, 53, 54, 55, 56, 57, 97, 98, 99, 100, 101, 102])[n]'h) = hexL n := by decide
  exact H n h

set_option maxHeartbeats 4000000 in
set_option maxRecDepth 100000 in
theorem Quote (s : ByteArray) (w : World) (hT : Tabs w) (hs : s.size ≤ 17592186044416) :
    Calls Tryd.prog 51 #[.string s] w fun e w' => e = .returned (.string ⟨(quoteL s.data.toList).toArray⟩) ∧ Below w.heap.size w w' := by
  have hI0 : Bld.Is w.heap.size w.heap.size (Lib.byteCells []) (w.alloc (.cells #[.pointer none, .slice none 0 0] 76)) := Lib.IsBuilderF.of (Lib.fresh_isBuilder _ _ w)
  have HT := Lib.hid hT
  clear hT
  go_enter Tryd.func51, Tryd.ntmps51
  go_wp2_with (go_at_call 71; refine (Bld.WriteByte w.heap.size w.heap.size _ 34 _ hI0 (by simp [Lib.byteCells]) (by simp)).mono ?_)
  rintro e W1 ⟨rfl, h1, b1, k1⟩
  have hbW := ((Below.refl w.heap.size w).alloc (Nat.le_refl _) (.cells #[.pointer none, .slice none 0 0] 76)).trans b1
  have hlt : w.heap.size < W1.heap.size := by have := b1.size; simp at this; omega
  clear b1 k1 hI0
  go_wp2
  go_loopw [] (fun wr => QRel s w W1.heap.size wr) (fun wr => s.size - wr.iterPos W1.heap.size)
  case atStart =>
    refine ⟨0, [34], (Lib.IsBuilderF.alloc (.inr h1) _), World.iter_heap W1 s 0, hbW.alloc (by omega) _, rfl, by simp, by omega⟩
  case round =>
    obtain ⟨pos, acc, hI, hit, hbw, hacc, hal, hle⟩ := hrel
    have hd0 : QHead s w W1.heap.size pos acc wr := ⟨hI, hit, hbw⟩
    have hsz := hd0.size
    clear hI hbw h1 hbW
    have Hacc := Lib.hid hacc
    clear hacc
    by_cases hp : pos < s.size
    · have hnx : ∀ ty, (Instr.next (.pointer (some ⟨W1.heap.size, 0, none⟩)) true ty).run Tryd.prog wr = _ := fun ty => Lib.run_next_any_at wr W1.heap.size s pos ty hit hp
      have hdN := decode_step s pos hp
      rw [hdN] at hnx
      have hd1 := hd0.next hlt (pos + stepL (s.data.toList.drop pos))
      have hsz1 : (wr.iterAt W1.heap.size s (pos + stepL (s.data.toList.drop pos))).heap.size = wr.heap.size := Lib.iterAt_size _ _ _ _
      have hD := DecodeTail s pos _ (hd1.tabs HT.out) hp
      rw [hdN] at hD
      have hcs := decode_cases s pos hp
      have Hnext := Lib.hid (QRel_next s w W1.heap.size pos acc)
      have hst := stepL_pos (s.data.toList.drop pos)
      have hst2 := step_le s pos hp
      have hg := get_lt s pos hp
      have hRle := decode_le s pos
      obtain ⟨N, hN⟩ : ∃ N, stepL (s.data.toList.drop pos) = N := ⟨_, rfl⟩
      obtain ⟨R, hR⟩ : ∃ R, (Utf8.decode s pos).1 = R := ⟨_, rfl⟩
      rw [hR] at hD hRle
      rw [hN] at hD hd1 hnx hst hst2 hsz1
      rw [hR] at hnx
      rw [hR] at hcs
      have Hcs := Lib.hid hcs
      have HN := Lib.hid hN
      have HR := Lib.hid hR
      have Hst2 := Lib.hid hst2
      clear hcs hN hR hdN
      obtain ⟨c, hc⟩ : ∃ c, s.get! pos = c := ⟨_, rfl⟩
      rw [hc] at hg
      have HC := Lib.hid hc
      clear hc
      go_wp2_with (go_at_call 72; refine hD.mono ?_)
      rintro e W2 ⟨rfl, hb2⟩
      have hd2 := hd1.mono hb2
      clear hD hnx
      by_cases h92 : c.toNat = 92
      · skip
        obtain rfl : R = 92 := by
          rcases Hcs.out with ⟨_, h2, _⟩ | ⟨_, _, h3⟩ | ⟨_, h2, _⟩
          · rw [HC.out] at h2; omega
          · have := congrArg Prod.fst h3; rw [HR.out, HC.out] at this; simp only [] at this; omega
          · rw [HC.out] at h2; omega
        have H92 := Lib.hid h92
        clear h92
        go_wp2_with (go_at_call 71; refine (Bld.WriteByte w.heap.size w.heap.size _ 92 _ hd2.isB (by rw [Lib.byteCells_length]; omega) hd2.base).mono ?_)
        rintro e W3 ⟨rfl, h3, b3, k3⟩
        rw [cells_oneZ _ 92 92 rfl] at h3
        have hd3 := hd2.wrote hlt h3 b3 k3
        go_wp2_with (go_at_call 73; refine (Bld.WriteRune w.heap.size w.heap.size _ 92 (by omega) (by omega) _ hd3.isB (by rw [Lib.byteCells_length]; simp; omega) hd3.base).mono ?_)
        rintro e W4 ⟨rfl, h4, b4, k4⟩
        rw [cells_rune] at h4
        have hd4 := hd3.wrote hlt h4 b4 k4
        rw [show acc ++ [92] ++ Lib.encodeRune 92 = acc ++ [92, c] from by rw [show ((92 : Int)) = (c.toNat : Int) from by rw [H92.out]; rfl, encode_ascii c (by rw [H92.out]; decide), List.append_assoc]; rfl] at hd4
        go_wp2
        go_roundw
        case rel =>
          rw [← HN.out] at hd4
          exact Hnext.out _ _ hp Hacc.out hal (by rw [HC.out]; unfold pieceL; rw [if_pos (by have := H92.out; omega)]) hd4
        case measure => simp only [World.iterPos, hd4.it, hit]; omega
      · by_cases h34 : c.toNat = 34
        · skip
          obtain rfl : R = 34 := by
            rcases Hcs.out with ⟨_, h2, _⟩ | ⟨_, _, h3⟩ | ⟨_, h2, _⟩
            · rw [HC.out] at h2; omega
            · have := congrArg Prod.fst h3; rw [HR.out, HC.out] at this; simp only [] at this; omega
            · rw [HC.out] at h2; omega
          have H92 := Lib.hid h34
          clear h34
          go_wp2_with (go_at_call 71; refine (Bld.WriteByte w.heap.size w.heap.size _ 92 _ hd2.isB (by rw [Lib.byteCells_length]; omega) hd2.base).mono ?_)
          rintro e W3 ⟨rfl, h3, b3, k3⟩
          rw [cells_oneZ _ 92 92 rfl] at h3
          have hd3 := hd2.wrote hlt h3 b3 k3
          go_wp2_with (go_at_call 73; refine (Bld.WriteRune w.heap.size w.heap.size _ 34 (by omega) (by omega) _ hd3.isB (by rw [Lib.byteCells_length]; simp; omega) hd3.base).mono ?_)
          rintro e W4 ⟨rfl, h4, b4, k4⟩
          rw [cells_rune] at h4
          have hd4 := hd3.wrote hlt h4 b4 k4
          rw [show acc ++ [92] ++ Lib.encodeRune 34 = acc ++ [92, c] from by rw [show ((34 : Int)) = (c.toNat : Int) from by rw [H92.out]; rfl, encode_ascii c (by rw [H92.out]; decide), List.append_assoc]; rfl] at hd4
          go_wp2
          go_roundw
          case rel =>
            rw [← HN.out] at hd4
            exact Hnext.out _ _ hp Hacc.out hal (by rw [HC.out]; unfold pieceL; rw [if_pos (by have := H92.out; omega)]) hd4
          case measure => simp only [World.iterPos, hd4.it, hit]; omega
        · by_cases h10 : c.toNat = 10
          · skip
            obtain rfl : R = 10 := by
              rcases Hcs.out with ⟨_, h2, _⟩ | ⟨_, _, h3⟩ | ⟨_, h2, _⟩
              · rw [HC.out] at h2; omega
              · have := congrArg Prod.fst h3; rw [HR.out, HC.out] at this; simp only [] at this; omega
              · rw [HC.out] at h2; omega
            have H92 := Lib.hid h10
            clear h10
            go_wp2_with (go_at_call 41; refine (Bld.WriteString w.heap.size w.heap.size _ ⟨#[92, 110]⟩ _ hd2.isB (by rw [Lib.byteCells_length]; show acc.length + 2 ≤ _; omega) hd2.base).mono ?_)
            rintro e W3 ⟨rfl, h3, b3, k3⟩
            rw [cells_str] at h3
            have hd3 := hd2.wrote hlt h3 b3 k3
            go_wp2
            go_roundw
            case rel =>
              rw [← HN.out] at hd3
              exact Hnext.out _ _ hp Hacc.out hal (by rw [HC.out]; unfold pieceL; have := H92.out; rw [if_neg (by omega)]; first | rw [if_pos (by omega)] | rw [if_neg (by omega), if_pos (by omega)]) hd3
            case measure => simp only [World.iterPos, hd3.it, hit]; omega
          · by_cases h9 : c.toNat = 9
            · skip
              obtain rfl : R = 9 := by
                rcases Hcs.out with ⟨_, h2, _⟩ | ⟨_, _, h3⟩ | ⟨_, h2, _⟩
                · rw [HC.out] at h2; omega
                · have := congrArg Prod.fst h3; rw [HR.out, HC.out] at this; simp only [] at this; omega
                · rw [HC.out] at h2; omega
              have H92 := Lib.hid h9
              clear h9
              go_wp2_with (go_at_call 41; refine (Bld.WriteString w.heap.size w.heap.size _ ⟨#[92, 116]⟩ _ hd2.isB (by rw [Lib.byteCells_length]; show acc.length + 2 ≤ _; omega) hd2.base).mono ?_)
              rintro e W3 ⟨rfl, h3, b3, k3⟩
              rw [cells_str] at h3
              have hd3 := hd2.wrote hlt h3 b3 k3
              go_wp2
              go_roundw
              case rel =>
                rw [← HN.out] at hd3
                exact Hnext.out _ _ hp Hacc.out hal (by rw [HC.out]; unfold pieceL; have := H92.out; rw [if_neg (by omega)]; first | rw [if_pos (by omega)] | rw [if_neg (by omega), if_pos (by omega)]) hd3
              case measure => simp only [World.iterPos, hd3.it, hit]; omega
            · have n1 : R ≠ 92 ∧ R ≠ 34 ∧ R ≠ 10 ∧ R ≠ 9 := by
                rcases Hcs.out with ⟨_, _, h3⟩ | ⟨_, _, h3⟩ | ⟨_, _, h3, _⟩
                · have := congrArg Prod.fst h3; rw [HR.out] at this; simp only [] at this; omega
                · have := congrArg Prod.fst h3; rw [HR.out, HC.out] at this; simp only [] at this; omega
                · omega
              have q1 : ((R : Int) == 92) = false := by rw [beq_eq_false_iff_ne]; omega
              have q2 : ((R : Int) == 34) = false := by rw [beq_eq_false_iff_ne]; omega
              have q3 : ((R : Int) == 10) = false := by rw [beq_eq_false_iff_ne]; omega
              have q4 : ((R : Int) == 9) = false := by rw [beq_eq_false_iff_ne]; omega
              have Hn := Lib.hid (And.intro h92 (And.intro h34 (And.intro h10 h9)))
              clear h92 h34 h10 h9 n1
              by_cases ho : oddZ R N = true
              · go_wp2_with (go_at_call 74; refine (isOdd _ _ _).mono ?_; rintro e w' ⟨rfl, rfl⟩)
                go_wp2_with (go_at_call 41; refine (Bld.WriteString w.heap.size w.heap.size _ ⟨#[92, 120]⟩ _ hd2.isB (by rw [Lib.byteCells_length]; show acc.length + 2 ≤ _; omega) hd2.base).mono ?_)
                rintro e W3 ⟨rfl, h3, b3, k3⟩
                rw [cells_str] at h3
                have hd3 := hd2.wrote hlt h3 b3 k3
                have cl := c.toNat_lt
                have cd0 : (c.toNat : Int) / 16 < 16 := by omega
                have cd1 : c.toNat / 16 < 16 := by omega
                go_wp2_with fail
                rw [fig_hex]
                refine (Bld.WriteByte w.heap.size w.heap.size _ (hexL (c.toNat / 16)).toNat _ hd3.isB (by rw [Lib.byteCells_length, List.length_append]; show acc.length + 2 + 1 ≤ _; omega) hd3.base).mono ?_
                rintro e W4 ⟨rfl, h4, b4, k4⟩
                rw [cells_one] at h4
                have hd4 := hd3.wrote hlt h4 b4 k4
                go_wp2_with fail
                rw [fig_hex]
                refine (Bld.WriteByte w.heap.size w.heap.size _ (hexL (c.toNat % 16)).toNat _ hd4.isB (by rw [Lib.byteCells_length, List.length_append, List.length_append]; show acc.length + 2 + 1 + 1 ≤ _; omega) hd4.base).mono ?_
                rintro e W5 ⟨rfl, h5, b5, k5⟩
                rw [cells_one] at h5
                have hd5 := hd4.wrote hlt h5 b5 k5
                clear cd0 cd1
                go_wp2
                go_roundw
                case rel =>
                  rw [← HN.out, List.append_assoc, List.append_assoc] at hd5
                  refine Hnext.out _ _ hp Hacc.out hal ?_ hd5
                  rw [HC.out]
                  unfold pieceL
                  obtain ⟨n92, n34, n10, n9⟩ := Hn.out
                  rw [if_neg (by omega), if_neg n10, if_neg n9, if_pos]
                  · rfl
                  · rcases Hcs.out with ⟨h1, _, _⟩ | ⟨_, _, h3⟩ | ⟨h1, h2, h3, h4, _⟩
                    · exact .inl h1
                    · have e1 := congrArg Prod.fst h3
                      rw [HR.out, HC.out] at e1
                      simp only [] at e1
                      simp only [oddZ, Bool.or_eq_true, Bool.and_eq_true, decide_eq_true_eq] at ho
                      omega
                    · rw [decode_step s pos hp, HN.out] at h4
                      simp only [oddZ, Bool.or_eq_true, Bool.and_eq_true, decide_eq_true_eq] at ho
                      omega
                case measure => simp only [World.iterPos, hd5.it, hit]; omega
              · have ho' : oddZ R N = false := by simpa using ho
                have Ho := Lib.hid ho
                clear ho
                go_wp2_with (first | (go_at_call 74; refine (isOdd _ _ _).mono ?_; rintro e w' ⟨rfl, rfl⟩) | (go_at_call 73; refine (Bld.WriteRune w.heap.size w.heap.size _ R (by omega) (by omega) _ hd2.isB (by rw [Lib.byteCells_length]; omega) hd2.base).mono ?_))
                rintro e W3 ⟨rfl, h3, b3, k3⟩
                rw [cells_rune] at h3
                have hd3 := hd2.wrote hlt h3 b3 k3
                go_wp2
                go_roundw
                case rel =>
                  rw [← HN.out] at hd3
                  refine Hnext.out _ _ hp Hacc.out hal ?_ hd3
                  rw [HC.out]
                  unfold pieceL
                  obtain ⟨n92, n34, n10, n9⟩ := Hn.out
                  have ho2 := Ho.out
                  simp only [oddZ, Bool.or_eq_true, Bool.and_eq_true, decide_eq_true_eq] at ho2
                  rcases Hcs.out with ⟨h1, h2, h3⟩ | ⟨h1, h2, h3⟩ | ⟨h1, h2, h3, h4, h5⟩
                  · have e1 := congrArg Prod.fst h3
                    have e2 := congrArg Prod.snd h3
                    rw [HR.out] at e1
                    rw [decode_step s pos hp, HN.out] at e2
                    simp only [] at e1 e2
                    omega
                  · have e1 := congrArg Prod.fst h3
                    rw [HR.out, HC.out] at e1
                    simp only [] at e1
                    rw [HC.out] at h2
                    rw [if_neg (by omega), if_neg n10, if_neg n9, if_neg (by omega), h1, take_one s pos hp, HC.out, e1, encode_ascii c h2]
                  · rw [HC.out] at h2
                    rw [if_neg (by omega), if_neg n10, if_neg n9, if_neg (by omega)]
                    exact h5.symm
                case measure => simp only [World.iterPos, hd3.it, hit]; omega
    · have hnx : ∀ ty, (Instr.next (.pointer (some ⟨W1.heap.size, 0, none⟩)) true ty).run Tryd.prog wr = _ := fun ty => Lib.run_next_end_at wr W1.heap.size s pos ty hit hp
      have hge : s.size ≤ pos := by omega
      have Hge := Lib.hid hge
      clear hp hge
      go_wp2_with (go_at_call 71; refine (Bld.WriteByte w.heap.size w.heap.size _ 34 _ hd0.isB (by rw [Lib.byteCells_length]; omega) hd0.base).mono ?_)
      rintro e W3 ⟨rfl, h3, b3, k3⟩
      rw [cells_oneZ _ 34 34 rfl] at h3
      have hd3 := hd0.wrote hlt h3 b3 k3
      go_wp2_with (go_at_call 44; refine (Tryd.Builder_String_any_k w.heap.size w.heap.size (acc ++ [34]) _ hd3.isB hd3.base).mono ?_)
      rintro e W4 ⟨rfl, _, b4, _⟩
      go_wp2
      go_ret
      have ha := Hacc.out
      rw [List.drop_eq_nil_of_le (by rw [size_data]; exact Hge.out), bodyL_nil, List.append_nil] at ha
      exact ⟨by rw [ha]; rfl, hd3.below.trans b4⟩
end Glw
end Go.Proofs.YthamcklkmchkiaaDoor
