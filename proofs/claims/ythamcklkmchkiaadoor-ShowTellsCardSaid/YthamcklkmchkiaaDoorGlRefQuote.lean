/-
  DERIVED. THE REFERENCE's QUOTING, WALKED (a text that grows, byte by byte). The cases are printed by program (wip/gen_refquote.py).
-/
import Derived.Test.YthamcklkmchkiaaDoorGlQuote
namespace Go.Proofs.YthamcklkmchkiaaDoor
open Go.RowKit
namespace Glw
open Gl

/-- A byte's number, behind a name. -/
def IsV (c : UInt8) (n : Nat) : Prop := c.toNat = n

theorem figureI (z : Int) (h0 : 0 ≤ z) (h1 : z < 16) (w : World) :
    Calls Tryd.prog 56 #[.int .u8 z] w fun e w' => e = .returned (.string ⟨#[hexL z.toNat]⟩) ∧ w = w' := by
  obtain ⟨n, rfl⟩ := Int.eq_ofNat_of_zero_le h0
  rw [Int.toNat_natCast]
  exact figure n (by omega) w

theorem app_data (a b : ByteArray) : (a ++ b).data.toList = a.data.toList ++ b.data.toList := by
  show (ByteArray.append a b).data.toList = _
  simp
theorem ext_data (s : ByteArray) (a b : Nat) : (s.extract a b).data.toList = (s.data.toList.drop a).take (b - a) := Lib.extract_data s a b
theorem of_data {b : ByteArray} {l : List UInt8} (h : b.data.toList = l) : b = ⟨l.toArray⟩ := by
  cases b with
  | mk d => subst h; simp
theorem ret_str {a : ByteArray} {l : List UInt8} (h : a.data.toList = l) : Ending.returned (.string a) = .returned (.string ⟨l.toArray⟩) := by rw [of_data h]

/-- What holds at the head of each round. -/
def RQ (s : ByteArray) (o i : Value) : Prop := ∃ (pos : Nat) (b : ByteArray), i = .int .i64 pos ∧ o = .string b ∧ b.data.toList ++ bodyL (s.data.toList.drop pos) = 34 :: bodyL s.data.toList ∧ b.size ≤ 4 * pos + 1 ∧ pos ≤ s.size

theorem RQ_next (s : ByteArray) (pos : Nat) (b b' : ByteArray) (N : Nat) (v : Value) (hp : pos < s.size) (hv : v = .int .i64 ((pos : Int) + N)) (hN : stepL (s.data.toList.drop pos) = N)
    (hacc : b.data.toList ++ bodyL (s.data.toList.drop pos) = 34 :: bodyL s.data.toList) (hal : b.size ≤ 4 * pos + 1)
    (hpc : b'.data.toList = b.data.toList ++ pieceL (s.get! pos) (longL (s.data.toList.drop pos)) ((s.data.toList.drop pos).take (longL (s.data.toList.drop pos)))) : RQ s (.string b') v := by
  refine ⟨pos + N, b', by rw [hv]; rfl, rfl, ?_, ?_, ?_⟩
  · rw [← hacc, body_step s pos hp, hpc, List.append_assoc, hN]
  · have h1 := pieceL_length (s.get! pos) (longL (s.data.toList.drop pos)) ((s.data.toList.drop pos).take (longL (s.data.toList.drop pos))) (by have := longL_le (s.data.toList.drop pos); simp only [List.length_take]; omega)
    have h2 : 1 ≤ N := by rw [← hN]; exact stepL_pos _
    have h3 := size_data b'
    have h4 := size_data b
    rw [hpc, List.length_append] at h3
    omega
  · rw [← hN]; exact step_le s pos hp

set_option maxHeartbeats 4000000 in
set_option maxRecDepth 100000 in
theorem refQuote (s : ByteArray) (w : World) (hs : s.size ≤ 17592186044416) :
    Calls Tryd.prog 36 #[.string s] w fun e w' => e = .returned (.string ⟨(quoteL s.data.toList).toArray⟩) ∧ w = w' := by
  go_enter Tryd.func36, Tryd.ntmps36
  go_wp2
  go_loop [3, 4] (fun o i => RQ s o i) (fun _ i => s.size - (intOf i).toNat)
  case atStart => exact ⟨0, ⟨#[34]⟩, rfl, rfl, rfl, by decide, by omega⟩
  case round =>
    obtain ⟨pos, b, rfl, rfl, hacc, hal, hle⟩ := hrel
    have Hacc := Lib.hid hacc
    clear hacc
    by_cases hp : pos < s.size
    · have hL := Long s pos w (by omega) hp
      have hst2 := step_le s pos hp
      have hll := longL_le (s.data.toList.drop pos)
      have hlc : (longL (s.data.toList.drop pos) = 0 ∧ 128 ≤ (s.get! pos).toNat) ∨ (longL (s.data.toList.drop pos) = 1 ∧ (s.get! pos).toNat < 128) ∨ (2 ≤ longL (s.data.toList.drop pos) ∧ 128 ≤ (s.get! pos).toNat) := by
        rcases decode_cases s pos hp with ⟨h1, h2, _⟩ | ⟨h1, h2, _⟩ | ⟨h1, h2, _⟩
        · exact .inl ⟨h1, h2⟩
        · exact .inr (.inl ⟨h1, h2⟩)
        · exact .inr (.inr ⟨h1, h2⟩)
      have Hnext := Lib.hid (RQ_next s pos b)
      obtain ⟨K, hK⟩ : ∃ K, longL (s.data.toList.drop pos) = K := ⟨_, rfl⟩
      have HS : RowKit.Hid (stepL (s.data.toList.drop pos) = max K 1) := Lib.hid (by unfold stepL; rw [hK])
      rw [HS.out] at hst2
      have hKs : pos + K ≤ s.size := by omega
      clear hst2
      rw [hK] at hL hlc hll
      have HK := Lib.hid hK
      clear hK
      have hg := get_lt s pos hp
      obtain ⟨c, hc⟩ : ∃ c, s.get! pos = c := ⟨_, rfl⟩
      rw [hc] at hg hlc
      have HC := Lib.hid hc
      clear hc
      have HL := Lib.hid hL
      clear hL
      have cl := c.toNat_lt
      by_cases h92 : c.toNat = 92
      · obtain rfl : K = 1 := by omega
        have q92 : ((c.toNat : Int) == 92) = true := by rw [beq_iff_eq]; omega
        have q34 : ((c.toNat : Int) == 34) = false := by rw [beq_eq_false_iff_ne]; omega
        have q10 : ((c.toNat : Int) == 10) = false := by rw [beq_eq_false_iff_ne]; omega
        have q9 : ((c.toNat : Int) == 9) = false := by rw [beq_eq_false_iff_ne]; omega
        have H1 := Lib.hid h92
        clear h92 hlc
        go_wp2_with (first | (go_at_call 45; refine HL.out.mono ?_; rintro e w' ⟨rfl, rfl⟩) | (go_at_call 56; refine (figureI _ (by omega) (by omega) _).mono ?_; rintro e w' ⟨rfl, rfl⟩))
        go_round
        case rel =>
          refine Hnext.out _ 1 _ hp (rfl) (by rw [HS.out]; omega) Hacc.out hal ?_
          rw [HC.out, HK.out]
          unfold pieceL
          rw [if_pos (by have := H1.out; omega)]; rw [app_data, app_data, ext_data, List.append_assoc]; congr 1; rw [show pos + 1 - pos = 1 from by omega, take_one s pos hp, HC.out]; rfl
        case measure => simp [intOf]; omega
      · skip
        by_cases h34 : c.toNat = 34
        · obtain rfl : K = 1 := by omega
          have q92 : ((c.toNat : Int) == 92) = false := by rw [beq_eq_false_iff_ne]; omega
          have q34 : ((c.toNat : Int) == 34) = true := by rw [beq_iff_eq]; omega
          have q10 : ((c.toNat : Int) == 10) = false := by rw [beq_eq_false_iff_ne]; omega
          have q9 : ((c.toNat : Int) == 9) = false := by rw [beq_eq_false_iff_ne]; omega
          have H1 := Lib.hid h34
          clear h34 hlc
          go_wp2_with (first | (go_at_call 45; refine HL.out.mono ?_; rintro e w' ⟨rfl, rfl⟩) | (go_at_call 56; refine (figureI _ (by omega) (by omega) _).mono ?_; rintro e w' ⟨rfl, rfl⟩))
          go_round
          case rel =>
            refine Hnext.out _ 1 _ hp (rfl) (by rw [HS.out]; omega) Hacc.out hal ?_
            rw [HC.out, HK.out]
            unfold pieceL
            rw [if_pos (by have := H1.out; omega)]; rw [app_data, app_data, ext_data, List.append_assoc]; congr 1; rw [show pos + 1 - pos = 1 from by omega, take_one s pos hp, HC.out]; rfl
          case measure => simp [intOf]; omega
        · skip
          by_cases h10 : c.toNat = 10
          · obtain rfl : K = 1 := by omega
            have q92 : ((c.toNat : Int) == 92) = false := by rw [beq_eq_false_iff_ne]; omega
            have q34 : ((c.toNat : Int) == 34) = false := by rw [beq_eq_false_iff_ne]; omega
            have q10 : ((c.toNat : Int) == 10) = true := by rw [beq_iff_eq]; omega
            have q9 : ((c.toNat : Int) == 9) = false := by rw [beq_eq_false_iff_ne]; omega
            have H1 := Lib.hid h10
            clear h10 hlc
            go_wp2_with (first | (go_at_call 45; refine HL.out.mono ?_; rintro e w' ⟨rfl, rfl⟩) | (go_at_call 56; refine (figureI _ (by omega) (by omega) _).mono ?_; rintro e w' ⟨rfl, rfl⟩))
            go_round
            case rel =>
              refine Hnext.out _ 1 _ hp (rfl) (by rw [HS.out]; omega) Hacc.out hal ?_
              rw [HC.out, HK.out]
              unfold pieceL
              rw [if_neg (by have := H1.out; omega), if_pos (by have := H1.out; omega)]; rw [app_data]
            case measure => simp [intOf]; omega
          · skip
            by_cases h9 : c.toNat = 9
            · obtain rfl : K = 1 := by omega
              have q92 : ((c.toNat : Int) == 92) = false := by rw [beq_eq_false_iff_ne]; omega
              have q34 : ((c.toNat : Int) == 34) = false := by rw [beq_eq_false_iff_ne]; omega
              have q10 : ((c.toNat : Int) == 10) = false := by rw [beq_eq_false_iff_ne]; omega
              have q9 : ((c.toNat : Int) == 9) = true := by rw [beq_iff_eq]; omega
              have H1 := Lib.hid h9
              clear h9 hlc
              go_wp2_with (first | (go_at_call 45; refine HL.out.mono ?_; rintro e w' ⟨rfl, rfl⟩) | (go_at_call 56; refine (figureI _ (by omega) (by omega) _).mono ?_; rintro e w' ⟨rfl, rfl⟩))
              go_round
              case rel =>
                refine Hnext.out _ 1 _ hp (rfl) (by rw [HS.out]; omega) Hacc.out hal ?_
                rw [HC.out, HK.out]
                unfold pieceL
                rw [if_neg (by have := H1.out; omega), if_neg (by have := H1.out; omega), if_pos (by have := H1.out; omega)]; rw [app_data]
              case measure => simp [intOf]; omega
            · skip
              have q92 : ((c.toNat : Int) == 92) = false := by rw [beq_eq_false_iff_ne]; omega
              have q34 : ((c.toNat : Int) == 34) = false := by rw [beq_eq_false_iff_ne]; omega
              have q10 : ((c.toNat : Int) == 10) = false := by rw [beq_eq_false_iff_ne]; omega
              have q9 : ((c.toNat : Int) == 9) = false := by rw [beq_eq_false_iff_ne]; omega
              have Hn := Lib.hid (And.intro h92 (And.intro h34 (And.intro h10 h9)))
              clear h92 h34 h10 h9
              by_cases ho : K = 0
              · subst ho
                have ho : (0 : Nat) = 0 := rfl
                have HO := Lib.hid ho
                clear ho hlc
                go_wp2_with (first | (go_at_call 45; refine HL.out.mono ?_; rintro e w' ⟨rfl, rfl⟩) | (go_at_call 56; refine (figureI _ (by omega) (by omega) _).mono ?_; rintro e w' ⟨rfl, rfl⟩))
                go_round
                case rel =>
                  refine Hnext.out _ 1 _ hp (rfl) (by rw [HS.out]; omega) Hacc.out hal ?_
                  rw [HC.out, HK.out]
                  unfold pieceL
                  obtain ⟨n92, n34, n10, n9⟩ := Hn.out; rw [if_neg (by omega), if_neg n10, if_neg n9, if_pos (by have := HO.out; omega)]; rw [app_data, app_data, app_data, List.append_assoc, List.append_assoc]; congr 1; try (have e127 : c.toNat = 127 := HV; rw [e127]; rfl)
                case measure => simp [intOf]; omega
              · skip
                by_cases ho : c.toNat < 32
                · obtain rfl : K = 1 := by omega
                  have q0 : (c.toNat : Int) < 32 := by omega
                  have HO := Lib.hid ho
                  clear ho hlc
                  go_wp2_with (first | (go_at_call 45; refine HL.out.mono ?_; rintro e w' ⟨rfl, rfl⟩) | (go_at_call 56; refine (figureI _ (by omega) (by omega) _).mono ?_; rintro e w' ⟨rfl, rfl⟩))
                  go_round
                  case rel =>
                    refine Hnext.out _ 1 _ hp (rfl) (by rw [HS.out]; omega) Hacc.out hal ?_
                    rw [HC.out, HK.out]
                    unfold pieceL
                    obtain ⟨n92, n34, n10, n9⟩ := Hn.out; rw [if_neg (by omega), if_neg n10, if_neg n9, if_pos (by have := HO.out; omega)]; rw [app_data, app_data, app_data, List.append_assoc, List.append_assoc]; congr 1; try (have e127 : c.toNat = 127 := HV; rw [e127]; rfl)
                  case measure => simp [intOf]; omega
                · skip
                  by_cases ho : c.toNat = 127
                  · have HV : IsV c 127 := ho
                    obtain rfl : K = 1 := by omega
                    have q0 : ((c.toNat : Int) == 127) = true := by rw [beq_iff_eq]; omega
                    have q1 : (32 : Int) ≤ c.toNat := by omega
                    have HO := Lib.hid ho
                    clear ho hlc
                    go_wp2_with (first | (go_at_call 45; refine HL.out.mono ?_; rintro e w' ⟨rfl, rfl⟩) | (go_at_call 56; refine (figureI _ (by omega) (by omega) _).mono ?_; rintro e w' ⟨rfl, rfl⟩))
                    go_round
                    case rel =>
                      refine Hnext.out _ 1 _ hp (rfl) (by rw [HS.out]; omega) Hacc.out hal ?_
                      rw [HC.out, HK.out]
                      unfold pieceL
                      obtain ⟨n92, n34, n10, n9⟩ := Hn.out; rw [if_neg (by omega), if_neg n10, if_neg n9, if_pos (by have := HO.out; omega)]; rw [app_data, app_data, app_data, List.append_assoc, List.append_assoc]; congr 1; try (have e127 : c.toNat = 127 := HV; rw [e127]; rfl)
                    case measure => simp [intOf]; omega
                  · skip
                    have k1 : 1 ≤ K := by omega
                    have q0 : ((K : Int) == 0) = false := by rw [beq_eq_false_iff_ne]; omega
                    have q1 : (32 : Int) ≤ c.toNat := by omega
                    have q2 : ((c.toNat : Int) == 127) = false := by rw [beq_eq_false_iff_ne]; omega
                    have k2 : (1 : Int) ≤ K := by omega
                    go_wp2_with (first | (go_at_call 45; refine HL.out.mono ?_; rintro e w' ⟨rfl, rfl⟩) | (go_at_call 56; refine (figureI _ (by omega) (by omega) _).mono ?_; rintro e w' ⟨rfl, rfl⟩))
                    go_round
                    case rel =>
                      refine Hnext.out _ K _ hp (by rw [show max (K : Int) 1 = (K : Int) from by omega]) (by rw [HS.out]; omega) Hacc.out hal ?_
                      rw [HC.out, HK.out]
                      unfold pieceL
                      obtain ⟨n92, n34, n10, n9⟩ := Hn.out; rw [if_neg (by omega), if_neg n10, if_neg n9, if_neg (by omega)]; rw [app_data, ext_data]; congr 2; omega
                    case measure => simp [intOf]; omega
    · have hge : s.size ≤ pos := by omega
      have Hge := Lib.hid hge
      go_wp2
      go_ret
      have ha := Hacc.out
      rw [List.drop_eq_nil_of_le (by rw [size_data]; exact Hge.out), bodyL_nil, List.append_nil] at ha
      exact ⟨ret_str (by rw [app_data, ha]; rfl), rfl⟩
end Glw
end Go.Proofs.YthamcklkmchkiaaDoor
