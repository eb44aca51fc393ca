/-
  DERIVED. READING A QUOTED TEXT, WALKED: the reference's (a text that grows).
-/
import Derived.Test.YtelejpajnemmfaaDoorGlUnq
namespace Go.Proofs.YtelejpajnemmfaaDoor
open Go.RowKit
namespace Glw
open Gl

/-- What holds at the head of each round. -/
def RU (s : ByteArray) (A : List UInt8 × Int × Int) (w : World) (o i : Value) (wr : World) : Prop :=
  ∃ (pos : Nat) (b : ByteArray), i = .int .i64 pos ∧ o = .string b ∧ Below w.heap.size w wr ∧ finL b.data.toList pos (unqL (s.data.toList.drop pos)) = A ∧ b.size ≤ pos ∧ pos ≤ s.size

theorem RU_rune (s : ByteArray) (A : List UInt8 × Int × Int) (w : World) (pos : Nat) (b : ByteArray) (b' : ByteArray) (v : Value) (wx : World) (K : Nat) (hp : pos < s.size) (hv : v = .int .i64 ((pos : Int) + K))
    (hK : longL (s.data.toList.drop pos) = K) (hL : K ≠ 0) (hb' : b'.data.toList = b.data.toList ++ (s.data.toList.drop pos).take K)
    (hc : ¬ (s.get! pos).toNat = 34 ∧ ¬ ((s.get! pos).toNat < 32 ∨ (s.get! pos).toNat = 127) ∧ ¬ (s.get! pos).toNat = 92)
    (hfin : finL b.data.toList pos (unqL (s.data.toList.drop pos)) = A) (hal : b.size ≤ pos) (hb : Below w.heap.size w wx) : RU s A w (.string b') v wx := by
  have h1 := size_data b
  have h2 := size_data b'
  have h3 := longL_le (s.data.toList.drop pos)
  rw [List.length_drop, size_data] at h3
  refine ⟨pos + K, b', by rw [hv]; rfl, rfl, hb, ?_, ?_, by omega⟩
  · rw [unq_pos s pos hp, if_neg hc.1, if_neg (by omega), if_neg hc.2.2, fin_map, hK] at hfin
    rw [hb']; exact hfin
  · rw [hb', List.length_append, List.length_take] at h2; omega
theorem RU_esc (s : ByteArray) (A : List UInt8 × Int × Int) (w : World) (pos : Nat) (b b' : ByteArray) (v : Value) (wx : World) (x : UInt8) (m : Nat) (hp : pos < s.size) (hv : v = .int .i64 ((pos : Int) + ((m : Int) + 1)))
    (hc : (s.get! pos).toNat = 92) (he : escL (s.data.toList.drop (pos + 1)) = some (x, m)) (hb' : b'.data.toList = b.data.toList ++ [x])
    (hfin : finL b.data.toList pos (unqL (s.data.toList.drop pos)) = A) (hal : b.size ≤ pos) (hb : Below w.heap.size w wx) : RU s A w (.string b') v wx := by
  have hm := escL_le he
  rw [List.length_drop, size_data] at hm
  have hl : longL (s.data.toList.drop pos) = 1 := by
    rcases decode_cases s pos hp with ⟨_, h2, _⟩ | ⟨h1, _, _⟩ | ⟨_, h2, _⟩
    · omega
    · exact h1
    · omega
  have h1 := size_data b
  have h2 := size_data b'
  refine ⟨pos + (1 + m), b', by rw [hv]; congr 1; omega, rfl, hb, ?_, ?_, by omega⟩
  · rw [unq_pos s pos hp, if_neg (by omega), if_neg (by omega), if_pos hc, he] at hfin
    simp only [] at hfin
    rw [fin_map1] at hfin
    rw [hb', show pos + (1 + m) = pos + 1 + m from by omega]
    rw [show pos + (1 + m) = pos + 1 + m from by omega] at hfin
    exact hfin
  · rw [hb', List.length_append] at h2; simp at h2; omega

set_option maxHeartbeats 4000000 in
set_option maxRecDepth 100000 in
theorem refUnquote (s : ByteArray) (w : World) (hs : s.size ≤ 17592186044416) :
    Calls Tryd.prog 43 #[.string s] w fun e w' => e = unqRes (unquoteL s.data.toList) ∧ Below w.heap.size w w' := by
  by_cases hz : s.size = 0
  · rw [unquote_shut s (.inl hz)]
    go_enter Tryd.func43, Tryd.ntmps43
    go_wp2
    go_ret3
    exact ⟨rfl, Below.refl _ _⟩
  · have h0 : 0 < s.size := by omega
    have h0' : (0 : Int) < s.size := by omega
    have hz' : ((s.size : Int) == 0) = false := by rw [beq_eq_false_iff_ne]; omega
    have hg0 := get_lt s 0 h0
    by_cases ho : (s.get! 0).toNat = 34
    · have hop := unquote_open s h0 ho
      obtain ⟨A, hA⟩ : ∃ A, unquoteL s.data.toList = A := ⟨_, rfl⟩
      rw [hA] at hop
      rw [hA]
      have Hop := Lib.hid hop.symm
      have h1s : 1 ≤ s.size := by omega
      have hbn : ((((s[0]'h0).toNat : Nat) : Int) != 34) = false := by rw [hg0, ho]; rfl
      clear hA hop ho hz hg0
      go_enter Tryd.func43, Tryd.ntmps43
      go_wp2_with fail
      go_loopw [5, 6] (fun o i wr => RU s A w o i wr) (fun _ i _ => s.size - (intOf i).toNat)
      case atStart => exact ⟨1, ⟨#[]⟩, rfl, rfl, Below.refl _ _, Hop.out, by decide, h1s⟩
      case round =>
        obtain ⟨pos, b, rfl, rfl, hbw, hfin, hal, hle⟩ := hrel
        have Hfin := Lib.hid hfin
        clear hfin hbn
        have hbs := hbw.size
        by_cases hp : pos < s.size
        · have hg := get_lt s pos hp
          have hlc : (longL (s.data.toList.drop pos) = 0 ∧ 128 ≤ (s.get! pos).toNat) ∨ (longL (s.data.toList.drop pos) = 1 ∧ (s.get! pos).toNat < 128) ∨ (2 ≤ longL (s.data.toList.drop pos) ∧ 128 ≤ (s.get! pos).toNat) := by
            rcases decode_cases s pos hp with ⟨h1, h2, _⟩ | ⟨h1, h2, _⟩ | ⟨h1, h2, _⟩
            · exact .inl ⟨h1, h2⟩
            · exact .inr (.inl ⟨h1, h2⟩)
            · exact .inr (.inr ⟨h1, h2⟩)
          have hL := Long s pos wr (by omega) hp
          have hll := longL_le (s.data.toList.drop pos)
          rw [List.length_drop, size_data] at hll
          have HR := Lib.hid (RU_rune s A w pos b)
          have HE := Lib.hid (RU_esc s A w pos b)
          have HU := Lib.hid (unq_pos s pos hp)
          have hEs := escaped s pos wr (by omega) hp
          have HEs := Lib.hid hEs
          obtain ⟨K, hK⟩ : ∃ K, longL (s.data.toList.drop pos) = K := ⟨_, rfl⟩
          rw [hK] at hL hlc hll
          have HK := Lib.hid hK
          have HL := Lib.hid hL
          clear hK hL hEs
          obtain ⟨c, hc⟩ : ∃ c, s.get! pos = c := ⟨_, rfl⟩
          rw [hc] at hg hlc
          have HC := Lib.hid hc
          clear hc
          have cl := c.toNat_lt
          have h2s : (pos : Int) + 1 ≤ s.size := by omega
          by_cases h34 : c.toNat = 34
          · have q34 : ((c.toNat : Int) == 34) = true := by rw [beq_iff_eq]; omega
            have hf := Hfin.out
            rw [HU.out, if_pos (by rw [HC.out]; exact h34)] at hf
            have hA : A = (b.data.toList, (pos : Int) + 1, 0) := by rw [← hf]; simp [finL]
            clear hf h34 hlc
            subst hA
            go_wp2_with fail
            go_ret3
            exact ⟨by rw [unqRes_mk, ← of_data (b := b) rfl]; rfl, hbw⟩
          · have q34 : ((c.toNat : Int) == 34) = false := by rw [beq_eq_false_iff_ne]; omega
            have H34 := Lib.hid h34
            clear h34
            by_cases hbad : K = 0 ∨ c.toNat < 32 ∨ c.toNat = 127
            · have hA : A = ([], 0, 2) := by
                refine UFail s A pos _ Hfin.out ?_
                rw [HU.out, HC.out, HK.out, if_neg H34.out, if_pos hbad]
              subst hA
              by_cases hk0 : K = 0
              · subst hk0
                clear hbad hlc
                go_wp2_with (go_at_call 32; refine HL.out.mono ?_; rintro e w' ⟨rfl, rfl⟩)
                go_ret3
                exact ⟨rfl, hbw⟩
              · have hk : ((K : Int) == 0) = false := by rw [beq_eq_false_iff_ne]; omega
                by_cases hlt : c.toNat < 32
                · have hlt' : (c.toNat : Int) < 32 := by omega
                  clear hbad hlc hk0 hlt
                  go_wp2_with (go_at_call 32; refine HL.out.mono ?_; rintro e w' ⟨rfl, rfl⟩)
                  go_ret3
                  exact ⟨rfl, hbw⟩
                · have hlt' : (32 : Int) ≤ c.toNat := by omega
                  have h127 : ((c.toNat : Int) == 127) = true := by rw [beq_iff_eq]; omega
                  clear hbad hlc hk0 hlt
                  go_wp2_with (go_at_call 32; refine HL.out.mono ?_; rintro e w' ⟨rfl, rfl⟩)
                  go_ret3
                  exact ⟨rfl, hbw⟩
            · have hk : ((K : Int) == 0) = false := by rw [beq_eq_false_iff_ne]; omega
              have hlt' : (32 : Int) ≤ c.toNat := by omega
              have h127 : ((c.toNat : Int) == 127) = false := by rw [beq_eq_false_iff_ne]; omega
              have HB := Lib.hid hbad
              clear hbad
              by_cases h92 : c.toNat = 92
              · have q92 : ((c.toNat : Int) == 92) = true := by rw [beq_iff_eq]; omega
                have H92 := Lib.hid h92
                cases he : escL (s.data.toList.drop (pos + 1)) with
                | none =>
                  have hA : A = ([], 0, 2) := by
                    refine UFail s A pos _ Hfin.out ?_
                    rw [HU.out, HC.out, HK.out, if_neg H34.out, if_neg HB.out, if_pos h92, he]
                  subst hA
                  have hE := HEs.out
                  rw [show escB (s.data.toList.drop (pos + 1)) = ([], 0) from by unfold escB; rw [he]] at hE
                  have HE2 := Lib.hid hE
                  clear hE he h92 hlc HEs
                  go_wp2_with (first | (go_at_call 32; refine HL.out.mono ?_; rintro e w' ⟨rfl, rfl⟩) | (go_at_call 72; refine HE2.out.mono ?_))
                  rintro e W4 ⟨rfl, b4⟩
                  go_wp2
                  go_ret3
                  exact ⟨rfl, hbw.trans (b4.mono hbs)⟩
                | some p =>
                  obtain ⟨x, m⟩ := p
                  have hm := escL_le he
                  rw [List.length_drop, size_data] at hm
                  have hm0 : ((m : Int) + 1 == 0) = false := by rw [beq_eq_false_iff_ne]; omega
                  have hE := HEs.out
                  rw [show escB (s.data.toList.drop (pos + 1)) = ([x], (m : Int) + 1) from by unfold escB; rw [he]] at hE
                  have HE2 := Lib.hid hE
                  have He := Lib.hid he
                  clear hE he h92 hlc HEs
                  go_wp2_with (first | (go_at_call 32; refine HL.out.mono ?_; rintro e w' ⟨rfl, rfl⟩) | (go_at_call 72; refine HE2.out.mono ?_))
                  rintro e W4 ⟨rfl, b4⟩
                  have hbx : (ByteArray.mk #[x]).size = 1 := rfl
                  go_wp2
                  go_roundw
                  case rel => exact HE.out _ _ _ x m hp rfl (by rw [HC.out]; exact H92.out) He.out (app_data _ _) Hfin.out hal (hbw.trans (b4.mono hbs))
                  case measure => simp [intOf]; omega
              · have q92 : ((c.toNat : Int) == 92) = false := by rw [beq_eq_false_iff_ne]; omega
                have H92 := Lib.hid h92
                have hK1 : 1 ≤ K := by have := HB.out; omega
                clear h92 hlc HEs
                go_wp2_with (go_at_call 32; refine HL.out.mono ?_; rintro e w' ⟨rfl, rfl⟩)
                go_roundw
                case rel =>
                  refine HR.out _ _ _ K hp rfl HK.out (by omega) ?_ (by rw [HC.out]; exact ⟨H34.out, fun h => HB.out (.inr h), H92.out⟩) Hfin.out hal hbw
                  rw [app_data, ext_data]; congr 2; omega
                case measure => simp [intOf]; omega
        · have hge : s.size ≤ pos := by omega
          have hA : A = ([], 0, 2) := by
            refine UFail s A pos _ Hfin.out ?_
            rw [List.drop_eq_nil_of_le (by rw [size_data]; exact hge)]; rfl
          subst hA
          clear hp
          go_wp2
          go_ret3
          exact ⟨rfl, hbw⟩
    · rw [unquote_shut s (.inr ho)]
      have hbn : ((((s[0]'h0).toNat : Nat) : Int) != 34) = true := by rw [hg0, bne_iff_ne]; omega
      clear ho hz hg0
      go_enter Tryd.func43, Tryd.ntmps43
      go_wp2
      go_ret3
      exact ⟨rfl, Below.refl _ _⟩
end Glw
end Go.Proofs.YtelejpajnemmfaaDoor
