/-
  DERIVED. LAYER 2 (lex): a text's tokens, walked.
-/
import Derived.Test.YtelejpajnemmfaaDoorLxRow
namespace Go.Proofs.YtelejpajnemmfaaDoor
open Go.RowKit
namespace Lxw
open Gl Lx Glw

theorem Toks.apart_rd {w : World} {B R pos : Nat} {v : Value} {ts : List Tok} {s : ByteArray} (h : Toks w B v ts) (hR : Rd w R s pos) : v.ownBlock ≠ some R := by
  rcases h.2 with ⟨rfl, _⟩ | ⟨g, cap, cur, rfl, _, hg, _⟩
  · simp [Value.ownBlock]
  · intro he
    have e : g = R := by simpa [Value.ownBlock] using he
    subst e
    unfold Rd at hR
    rw [hg] at hR
    injection hR with hR
    injection hR with _ ht
    exact absurd ht (by decide)

/-- Behind an append: the reader, and the token's own block, are as they were. -/
theorem after_app {w w2 W2 w3 : World} {R pos : Nat} {s : ByteArray} {v : Value} {ts : List Tok} {o : Obj} (hR : Rd w2 R s pos) (hT : Toks w2 w.heap.size v ts) (hB : Below w.heap.size w w2)
    (bel : Below w2.heap.size w2 W2) (hsz : W2.heap.size = w2.heap.size + 2) (tk : W2.heap[w2.heap.size]? = some o) (hg : W2.grownBy w3 v.ownBlock) :
    Rd w3 R s pos ∧ Below w.heap.size w w3 ∧ w3.heap[w2.heap.size]? = some o := by
  have hne := hT.apart_rd hR
  have hR2 := hR.below bel
  refine ⟨(hg.block R hR2.lt (fun e => hne e.symm)).trans hR2, Below.of_grown (hB.trans (bel.mono hB.size)) hg (by have := hB.size; omega) (fun k hk => (hT.lt k hk).1), ?_⟩
  exact (hg.block w2.heap.size (by omega) (fun e => by have := (hT.lt _ e.symm).2; omega)).trans tk

/-- In the reader's rounds: what has been read, and where it stands. -/
def TokRel (w : World) (s : ByteArray) (A : Sum Nat (List Tok)) (v : Value) (wr : World) : Prop := ∃ (pos : Nat) (done : List Tok), Rd wr w.heap.size s pos ∧ Below w.heap.size w wr ∧ Toks wr w.heap.size v done ∧ pos ≤ s.size ∧ done.length ≤ pos ∧
  skipM false (s.data.toList.drop pos) = 0 ∧ A = appR done (tokL pos (s.data.toList.drop pos))

set_option maxHeartbeats 2000000 in
set_option maxRecDepth 100000 in
theorem Tokens (s : ByteArray) (w : World) (hs : s.size ≤ 100000) (hE : Env w) :
    Calls Tryd.prog 11 #[.string s] w fun e w' => TokIs w.heap.size s.data.toList e w' ∧ Below w.heap.size w w' := by
  obtain ⟨i0, hi, hz0, hz1, hz2⟩ := info_parts infoTok
  have HI := Lib.hid hi
  have HZ0 := Lib.hid hz0
  have HZ1 := Lib.hid hz1
  have HZ2 := Lib.hid hz2
  clear hi hz0 hz1 hz2
  obtain ⟨A, hA⟩ : ∃ A, tokL 0 s.data.toList = A := ⟨_, rfl⟩
  have HAe := Lib.hid hA
  have HE := Lib.hid hE
  have d0 : (s.size : Int) ≤ 100000 := by omega
  have b1 : Below w.heap.size w (w.alloc (.cells #[.string s, .int .i64 0] 37)) := (Below.refl _ _).alloc (Nat.le_refl _) _
  have R1 : Rd (w.alloc (.cells #[.string s, .int .i64 0] 37)) w.heap.size s 0 := heap_alloc_new w _
  have HB1 := Lib.hid b1
  have HR1 := Lib.hid R1
  clear hE b1 R1
  go_enter Tryd.func11, Tryd.ntmps11
  go_wp2_with fail
  refine (skip w.heap.size s 0 _ (by omega) (by omega) HR1.out).mono ?_
  rintro e w1 ⟨rfl, R2, A2⟩
  have B2 := Lib.hid (HB1.out.trans (A2.below (Nat.le_refl _) (by simp)))
  have h0 := tokL_after 0 s.data.toList
  rw [hA, Nat.zero_add] at h0
  rw [List.drop_zero, Nat.zero_add] at R2
  have H0 := Lib.hid h0
  have HR2 := Lib.hid R2
  clear h0 hA A2 R2 HB1 HR1
  dsimp only
  go_wp2
  go_loopw [6] (fun v wr => TokRel w s A v wr) (fun _ wr => s.size - (intOf ((wr.cell? ⟨w.heap.size, 1, none⟩).getD undef)).toNat)
  case atStart =>
    have hle := skipM_le s.data.toList false
    rw [size_data] at hle
    exact ⟨_, [], HR2.out, B2.out, Toks.nil_ _ _, hle, Nat.zero_le _, skip_idem _, by rw [appR_nil]; exact H0.out⟩
  case round =>
    clear H0 HR2 B2
    obtain ⟨pos, done, hR, hB, hT, hle, hdl, hsk, heq⟩ := hrel
    have c0 := hR.cell0
    have c1 := hR.cell1
    have HR := Lib.hid hR
    have HB := Lib.hid hB
    have HT := Lib.hid hT
    have HSK := Lib.hid hsk
    have HEQ := Lib.hid heq
    clear hR hB hT hsk heq
    by_cases hp : pos < s.size
    · have hp' : (pos : Int) < s.size := by omega
      go_wp2_with fail
      refine (next w.heap.size s pos _ hp (by omega) HR.out (HE.out.below HB.out)).mono ?_
      rintro e w2 ⟨⟨k, x, hi, ok, rfl, hm⟩, b2⟩
      have R2 := Lib.hid (HR.out.below b2)
      have B2 := Lib.hid (HB.out.trans (b2.mono HB.out.size))
      have T2 := Lib.hid (HT.out.below b2)
      clear b2 c0 c1
      dsimp only
      cases ok with
      | false =>
        have ho : oneL (s.data.toList.drop pos) = none := by
          cases hq : oneL (s.data.toList.drop pos) with
          | none => rfl
          | some q => rw [hq] at hm; exact absurd hm.1 (by decide)
        have hA2 := tok_bad HEQ.out (by rw [size_data]; exact hp) HSK.out ho
        have HA2 := Lib.hid hA2
        clear hm ho hA2
        go_wp2
        go_quiet (fail)
        go_wp2
        go_ret3
        refine ⟨?_, below_drewN' (B2.out.alloc B2.out.size _) _⟩
        unfold TokIs
        rw [HAe.out, HA2.out]
        rfl
      | true =>
        obtain ⟨q, hq, hqk, hqx, hqh⟩ : ∃ q : Nat × List UInt8 × Nat, oneL (s.data.toList.drop pos) = some q ∧ k = (q.1 : Int) ∧ x = ⟨q.2.1.toArray⟩ ∧ hi = ((pos + q.2.2 : Nat) : Int) := by
          cases hq : oneL (s.data.toList.drop pos) with
          | none => rw [hq] at hm; simp at hm
          | some q => rw [hq] at hm; exact ⟨q, rfl, hm.2⟩
        obtain ⟨k', x', m⟩ := q
        subst hqk hqx hqh
        have hln := oneL_len hq
        rw [List.length_drop, size_data] at hln
        have hst := tok_step HEQ.out HSK.out hq
        have hskl := skipM_le (s.data.toList.drop (pos + m)) false
        rw [List.length_drop, size_data] at hskl
        have HST := Lib.hid hst
        have hsi := skip_idem (s.data.toList.drop (pos + m))
        rw [List.drop_drop] at hsi
        have HSI := Lib.hid hsi
        clear hm hst hq hsi
        obtain ⟨y, hy⟩ : ∃ y : ByteArray, (⟨x'.toArray⟩ : ByteArray) = y := ⟨_, rfl⟩
        have HY := Lib.hid hy
        simp only [hy]
        clear hy
        obtain ⟨M, hM⟩ : ∃ M, pos + m = M := ⟨_, rfl⟩
        simp only [hM] at HST HSI hskl ⊢
        have hMs : M ≤ s.size := by omega
        have hMp : pos + 1 ≤ M := by omega
        clear hM hln
        have ownA : Toks ((w2.alloc (.cells #[.int .i64 k', .string y, .int .i64 pos, .int .i64 M] 31)).alloc (.cells #[.int .i64 k', .string y, .int .i64 pos, .int .i64 M] 31)) w.heap.size u6 done := (T2.out.below (((Below.refl _ _).alloc (Nat.le_refl _) _).alloc (by simp) _))
        have OWN := Lib.hid ownA
        have news : ∀ j u, ([.int .i64 k', .string y, .int .i64 pos, .int .i64 M] : List Value)[j]? = some u → ((w2.alloc (.cells #[.int .i64 k', .string y, .int .i64 pos, .int .i64 M] 31)).alloc (.cells #[.int .i64 k', .string y, .int .i64 pos, .int .i64 M] 31)).cell? ((⟨w2.heap.size + 1, 0, none⟩ : Addr).add j) = some u := World.news_of_block (heap_alloc2_new w2 _ _)
        have NEWS := Lib.hid news
        have hone : ∀ u ∈ ([.int .i64 k', .string y, .int .i64 pos, .int .i64 M] : List Value), u.oneCell' = true := by
          intro u hu
          simp only [List.mem_cons, List.not_mem_nil, or_false] at hu
          rcases hu with rfl | rfl | rfl | rfl <;> rfl
        have HONE := Lib.hid hone
        have hwl : w.heap.size < w2.heap.size := R2.out.lt
        have tk2 : ((w2.alloc (.cells #[.int .i64 k', .string y, .int .i64 pos, .int .i64 M] 31)).alloc (.cells #[.int .i64 k', .string y, .int .i64 pos, .int .i64 M] 31)).heap[w2.heap.size]? = some (.cells #[.int .i64 k', .string y, .int .i64 pos, .int .i64 M] 31 (0, 0)) := by
          rw [heap_alloc_old _ _ (by simp)]; exact heap_alloc_new w2 _
        have TK2 := Lib.hid tk2
        have bel2 : Below w2.heap.size w2 ((w2.alloc (.cells #[.int .i64 k', .string y, .int .i64 pos, .int .i64 M] 31)).alloc (.cells #[.int .i64 k', .string y, .int .i64 pos, .int .i64 M] 31)) := ((Below.refl _ _).alloc (Nat.le_refl _) _).alloc (by simp) _
        have BEL2 := Lib.hid bel2
        have hs2 : ((w2.alloc (.cells #[.int .i64 k', .string y, .int .i64 pos, .int .i64 M] 31)).alloc (.cells #[.int .i64 k', .string y, .int .i64 pos, .int .i64 M] 31)).heap.size = w2.heap.size + 2 := by simp
        have HS2 := Lib.hid hs2
        clear ownA news hone tk2 bel2 hs2
        have hlen : done.length + 1 ≤ 100000 := by omega
        go_wp2_with (at_builtin; refine wpList_append_own_at _ rfl (.tmp 35) (.tmp 37) 23 rfl w.heap.size 31 i0 _ 4 40 Tryd.underlying23 HI.out HZ0.out HZ1.out HZ2.out rfl (by decide) u6 done.length (toksC done) rfl OWN.out ⟨w2.heap.size + 1, 0, none⟩ 1 1 [.int .i64 k', .string y, .int .i64 pos, .int .i64 M] rfl rfl NEWS.out HONE.out (by unfold maxLen; omega) (by omega) (by rw [HS2.out]; omega) ?_; intro v' w3 hown hgrow _ hat; obtain ⟨R3, B3, T3⟩ := after_app R2.out T2.out B2.out BEL2.out HS2.out TK2.out hgrow; have c1 := R3.cell1; have f1 := R3.frozen 1; have t3 : w3.cell? ⟨w2.heap.size, 3, none⟩ = some (.int .i64 M) := (by rw [Lib.cell_of_heap T3]; rfl); have HR3 := Lib.hid R3; have HB3 := Lib.hid B3; have HO3 := Lib.hid hown; clear R3 B3 T3 hown hgrow hat)
        have hskM : M + skipM false (s.data.toList.drop M) ≤ s.size := by omega
        refine (skip w.heap.size s M _ (by omega) hMs (HR3.out.set M)).mono ?_
        rintro e w4 ⟨rfl, R4, A4⟩
        have T3 : Toks w3 w.heap.size v' (done ++ [⟨k', x', pos, M⟩]) := by
          unfold Toks
          rw [toksC_app, List.length_append]
          simp only [toksC, HY.out]
          exact HO3.out
        have A5 := ((Apart.refl w.heap.size w3).set 1 (.int .i64 M)).trans A4
        have T4 := Lib.hid (T3.apart A5 (T3.apart_rd HR3.out))
        have B4 := Lib.hid (HB3.out.trans (A5.below (Nat.le_refl _) (Nat.le_of_lt HR3.out.lt)))
        have HR4 := Lib.hid R4
        clear A4 A5 T3 R4 c1 f1 t3
        dsimp only
        go_wp2
        go_roundw
        case rel => exact ⟨_, _, HR4.out, B4.out, T4.out, hskM, by rw [List.length_append]; simp only [List.length_cons, List.length_nil]; omega, HSI.out, HST.out⟩
        case measure =>
          rw [HR4.out.cell1, HR.out.cell1]
          simp [intOf]; omega
    · obtain rfl : pos = s.size := by omega
      have hend := tok_end HEQ.out (size_data s).symm
      have HEND := Lib.hid hend
      have hp' : ¬ (s.size : Int) < s.size := by omega
      have news : ∀ j u, ([.int .i64 0, .string ⟨#[]⟩, .int .i64 s.size, .int .i64 s.size] : List Value)[j]? = some u → (wr.alloc (.cells #[.int .i64 0, .string ⟨#[]⟩, .int .i64 s.size, .int .i64 s.size] 31)).cell? ((⟨wr.heap.size, 0, none⟩ : Addr).add j) = some u := World.news_of_block (heap_alloc_new wr _)
      have NEWS := Lib.hid news
      have hone : ∀ u ∈ ([.int .i64 0, .string ⟨#[]⟩, .int .i64 s.size, .int .i64 s.size] : List Value), u.oneCell' = true := by
        intro u hu
        simp only [List.mem_cons, List.not_mem_nil, or_false] at hu
        rcases hu with rfl | rfl | rfl | rfl <;> rfl
      have HONE := Lib.hid hone
      have ownA : Toks (wr.alloc (.cells #[.int .i64 0, .string ⟨#[]⟩, .int .i64 s.size, .int .i64 s.size] 31)) w.heap.size u6 done := HT.out.below ((Below.refl _ _).alloc (Nat.le_refl _) _)
      have OWN := Lib.hid ownA
      have hs2 : (wr.alloc (.cells #[.int .i64 0, .string ⟨#[]⟩, .int .i64 s.size, .int .i64 s.size] 31)).heap.size = wr.heap.size + 1 := by simp
      have HS2 := Lib.hid hs2
      have hbw := HB.out.size
      clear hend news hone ownA hs2
      go_wp2_with (at_builtin; refine wpList_append_own_at _ rfl (.tmp 44) (.tmp 50) 23 rfl w.heap.size 31 i0 _ 4 40 Tryd.underlying23 HI.out HZ0.out HZ1.out HZ2.out rfl (by decide) u6 done.length (toksC done) rfl OWN.out ⟨wr.heap.size, 0, none⟩ 1 1 [.int .i64 0, .string ⟨#[]⟩, .int .i64 s.size, .int .i64 s.size] rfl rfl NEWS.out HONE.out (by unfold maxLen; omega) (by omega) (by rw [HS2.out]; omega) ?_; intro v' w3 hown hgrow _ hat)
      go_ret3
      refine ⟨?_, Below.of_grown (HB.out.alloc hbw _) hgrow (by rw [HS2.out]; omega) (fun k hk => (OWN.out.lt k hk).1)⟩
      unfold TokIs
      rw [HAe.out, HEND.out]
      refine ⟨v', rfl, ?_⟩
      unfold Toks
      rw [toksC_app, List.length_append]
      exact hown
end Lxw
end Go.Proofs.YtelejpajnemmfaaDoor
