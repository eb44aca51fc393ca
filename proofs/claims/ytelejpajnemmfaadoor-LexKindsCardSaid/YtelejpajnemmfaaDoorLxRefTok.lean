/-
  DERIVED. LAYER 2 (lex): the reference's tokens, walked; two rows of tokens, held against each other; the reference's joining.
-/
import Derived.Test.YtelejpajnemmfaaDoorLxOne
namespace Go.Proofs.YtelejpajnemmfaaDoor
open Go.RowKit
namespace Lxw
open Gl Lx Glw

/-- Behind an append: the token's own block is as it was. -/
theorem after_app0 {w w2 W2 w3 : World} {v : Value} {ts : List Tok} {o : Obj} (hT : Toks w2 w.heap.size v ts) (hB : Below w.heap.size w w2)
    (bel : Below w2.heap.size w2 W2) (hsz : W2.heap.size = w2.heap.size + 2) (tk : W2.heap[w2.heap.size]? = some o) (hg : W2.grownBy w3 v.ownBlock) :
    Below w.heap.size w w3 ∧ w3.heap[w2.heap.size]? = some o := by
  refine ⟨Below.of_grown (hB.trans (bel.mono hB.size)) hg (by have := hB.size; omega) (fun k hk => (hT.lt k hk).1), ?_⟩
  exact (hg.block w2.heap.size (by omega) (fun e => by have := (hT.lt _ e.symm).2; omega)).trans tk

/-- In the reference's rounds: what has been read, and where it stands. -/
def RTokRel (w : World) (s : ByteArray) (A : Sum Nat (List Tok)) (v i : Value) (wr : World) : Prop := ∃ (pos : Nat) (done : List Tok), i = .int .i64 pos ∧ Below w.heap.size w wr ∧ Toks wr w.heap.size v done ∧ pos ≤ s.size ∧ done.length ≤ pos ∧
  skipM false (s.data.toList.drop pos) = 0 ∧ A = appR done (tokL pos (s.data.toList.drop pos))

set_option maxHeartbeats 2000000 in
set_option maxRecDepth 100000 in
theorem refTokens (s : ByteArray) (w : World) (hs : s.size ≤ 100000) :
    Calls Tryd.prog 12 #[.string s] w fun e w' => TokIs w.heap.size s.data.toList e w' ∧ Below w.heap.size w w' := by
  obtain ⟨i0, hi, hz0, hz1, hz2⟩ := info_parts infoTok
  have HI := Lib.hid hi
  have HZ0 := Lib.hid hz0
  have HZ1 := Lib.hid hz1
  have HZ2 := Lib.hid hz2
  clear hi hz0 hz1 hz2
  obtain ⟨A, hA⟩ : ∃ A, tokL 0 s.data.toList = A := ⟨_, rfl⟩
  have HAe := Lib.hid hA
  have d0 : (s.size : Int) ≤ 100000 := by omega
  have b1 : Below w.heap.size w (w.alloc (.cells #[] 31)) := (Below.refl _ _).alloc (Nat.le_refl _) _
  have T1 : Toks (w.alloc (.cells #[] 31)) w.heap.size (.slice (some ⟨w.heap.size, 0, none⟩) 0 0) [] := World.ownsRow_made w #[] 0 (Nat.le_refl _) (by decide) rfl
  have HB1 := Lib.hid b1
  have HT1 := Lib.hid T1
  have h0 := tokL_after 0 s.data.toList
  rw [hA, Nat.zero_add] at h0
  have H0 := Lib.hid h0
  clear b1 T1 hA h0
  have hbt := fun w => between s 0 w (by omega) (Nat.zero_le _)
  simp only [List.drop_zero, Nat.zero_add] at hbt
  have HBT := Lib.hid hbt
  clear hbt
  go_enter Tryd.func12, Tryd.ntmps12
  go_wp2_with fail
  refine (HBT.out _).mono ?_
  rintro e w' ⟨rfl, rfl⟩
  dsimp only
  go_wp2_with fail
  go_loopw [5, 6] (fun v i wr => RTokRel w s A v i wr) (fun _ i _ => s.size - (intOf i).toNat)
  case atStart =>
    have hle := skipM_le s.data.toList false
    rw [size_data] at hle
    exact ⟨_, [], rfl, HB1.out, HT1.out, hle, Nat.zero_le _, skip_idem _, by rw [appR_nil]; exact H0.out⟩
  case round =>
    clear H0 HT1 HB1
    obtain ⟨pos, done, rfl, hB, hT, hle, hdl, hsk, heq⟩ := hrel
    have HB := Lib.hid hB
    have HT := Lib.hid hT
    have HSK := Lib.hid hsk
    have HEQ := Lib.hid heq
    clear hB hT hsk heq
    by_cases hp : pos < s.size
    · have hp' : (pos : Int) < s.size := by omega
      go_wp2_with fail
      refine (one s pos _ hp (by omega)).mono ?_
      rintro e w2 ⟨⟨k, x, hi, ok, rfl, hm⟩, b2⟩
      have B2 := Lib.hid (HB.out.trans (b2.mono HB.out.size))
      have T2 := Lib.hid (HT.out.below b2)
      clear b2
      dsimp only
      cases ok with
      | false =>
        have ho : oneL (s.data.toList.drop pos) = none := by
          cases hq : oneL (s.data.toList.drop pos) with
          | none => rfl
          | some q => rw [hq] at hm; exact absurd hm.1 (by decide)
        have hA2 := tok_bad HEQ.out (by rw [size_data]; exact hp) HSK.out ho
        have HA2 := Lib.hid hA2
        clear hm ho hA2
        go_wp2
        go_ret3
        refine ⟨?_, B2.out.alloc B2.out.size _⟩
        unfold TokIs
        rw [HAe.out, HA2.out]
        rfl
      | true =>
        obtain ⟨q, hq, hqk, hqx, hqh⟩ : ∃ q : Nat × List UInt8 × Nat, oneL (s.data.toList.drop pos) = some q ∧ k = (q.1 : Int) ∧ x = ⟨q.2.1.toArray⟩ ∧ hi = ((pos + q.2.2 : Nat) : Int) := by
          cases hq : oneL (s.data.toList.drop pos) with
          | none => rw [hq] at hm; simp at hm
          | some q => rw [hq] at hm; exact ⟨q, rfl, hm.2⟩
        obtain ⟨k', x', m⟩ := q
        subst hqk hqx hqh
        have hln := oneL_len hq
        rw [List.length_drop, size_data] at hln
        have hst := tok_step HEQ.out HSK.out hq
        have hskl := skipM_le (s.data.toList.drop (pos + m)) false
        rw [List.length_drop, size_data] at hskl
        have HST := Lib.hid hst
        have hsi := skip_idem (s.data.toList.drop (pos + m))
        rw [List.drop_drop] at hsi
        have HSI := Lib.hid hsi
        clear hm hst hq hsi
        obtain ⟨y, hy⟩ : ∃ y : ByteArray, (⟨x'.toArray⟩ : ByteArray) = y := ⟨_, rfl⟩
        have HY := Lib.hid hy
        simp only [hy]
        clear hy
        obtain ⟨M, hM⟩ : ∃ M, pos + m = M := ⟨_, rfl⟩
        simp only [hM] at HST HSI hskl ⊢
        have hMs : M ≤ s.size := by omega
        have hMp : pos + 1 ≤ M := by omega
        clear hM hln
        have ownA : Toks ((w2.alloc (.cells #[.int .i64 k', .string y, .int .i64 pos, .int .i64 M] 31)).alloc (.cells #[.int .i64 k', .string y, .int .i64 pos, .int .i64 M] 31)) w.heap.size u5 done := (T2.out.below (((Below.refl _ _).alloc (Nat.le_refl _) _).alloc (by simp) _))
        have OWN := Lib.hid ownA
        have news : ∀ j u, ([.int .i64 k', .string y, .int .i64 pos, .int .i64 M] : List Value)[j]? = some u → ((w2.alloc (.cells #[.int .i64 k', .string y, .int .i64 pos, .int .i64 M] 31)).alloc (.cells #[.int .i64 k', .string y, .int .i64 pos, .int .i64 M] 31)).cell? ((⟨w2.heap.size + 1, 0, none⟩ : Addr).add j) = some u := World.news_of_block (heap_alloc2_new w2 _ _)
        have NEWS := Lib.hid news
        have hone : ∀ u ∈ ([.int .i64 k', .string y, .int .i64 pos, .int .i64 M] : List Value), u.oneCell' = true := by
          intro u hu
          simp only [List.mem_cons, List.not_mem_nil, or_false] at hu
          rcases hu with rfl | rfl | rfl | rfl <;> rfl
        have HONE := Lib.hid hone
        have hwl : w.heap.size ≤ w2.heap.size := B2.out.size
        have tk2 : ((w2.alloc (.cells #[.int .i64 k', .string y, .int .i64 pos, .int .i64 M] 31)).alloc (.cells #[.int .i64 k', .string y, .int .i64 pos, .int .i64 M] 31)).heap[w2.heap.size]? = some (.cells #[.int .i64 k', .string y, .int .i64 pos, .int .i64 M] 31 (0, 0)) := by
          rw [heap_alloc_old _ _ (by simp)]; exact heap_alloc_new w2 _
        have TK2 := Lib.hid tk2
        have bel2 : Below w2.heap.size w2 ((w2.alloc (.cells #[.int .i64 k', .string y, .int .i64 pos, .int .i64 M] 31)).alloc (.cells #[.int .i64 k', .string y, .int .i64 pos, .int .i64 M] 31)) := ((Below.refl _ _).alloc (Nat.le_refl _) _).alloc (by simp) _
        have BEL2 := Lib.hid bel2
        have hs2 : ((w2.alloc (.cells #[.int .i64 k', .string y, .int .i64 pos, .int .i64 M] 31)).alloc (.cells #[.int .i64 k', .string y, .int .i64 pos, .int .i64 M] 31)).heap.size = w2.heap.size + 2 := by simp
        have HS2 := Lib.hid hs2
        clear ownA news hone tk2 bel2 hs2
        have hlen : done.length + 1 ≤ 100000 := by omega
        go_wp2_with (at_builtin; refine wpList_append_own_at _ rfl (.tmp 28) (.tmp 30) 23 rfl w.heap.size 31 i0 _ 4 40 Tryd.underlying23 HI.out HZ0.out HZ1.out HZ2.out rfl (by decide) u5 done.length (toksC done) rfl OWN.out ⟨w2.heap.size + 1, 0, none⟩ 1 1 [.int .i64 k', .string y, .int .i64 pos, .int .i64 M] rfl rfl NEWS.out HONE.out (by unfold maxLen; omega) (by omega) (by rw [HS2.out]; omega) ?_; intro v' w3 hown hgrow _ hat; obtain ⟨B3, T3⟩ := after_app0 T2.out B2.out BEL2.out HS2.out TK2.out hgrow; have t3 : w3.cell? ⟨w2.heap.size, 3, none⟩ = some (.int .i64 M) := (by rw [Lib.cell_of_heap T3]; rfl); have HB3 := Lib.hid B3; have HO3 := Lib.hid hown; clear B3 T3 hown hgrow hat)
        have hskM : M + skipM false (s.data.toList.drop M) ≤ s.size := by omega
        refine (between s M _ (by omega) hMs).mono ?_
        rintro e w4 ⟨rfl, rfl⟩
        have T3 : Toks w3 w.heap.size v' (done ++ [⟨k', x', pos, M⟩]) := by
          unfold Toks
          rw [toksC_app, List.length_append]
          simp only [toksC, HY.out]
          exact HO3.out
        have T4 := Lib.hid T3
        clear T3 t3
        dsimp only
        go_wp2
        refine ⟨⟨_, _, rfl, HB3.out, T4.out, hskM, by rw [List.length_append]; simp only [List.length_cons, List.length_nil]; omega, HSI.out, HST.out⟩, by simp [intOf]; omega⟩
    · obtain rfl : pos = s.size := by omega
      have hend := tok_end HEQ.out (size_data s).symm
      have HEND := Lib.hid hend
      have hp' : ¬ (s.size : Int) < s.size := by omega
      have news : ∀ j u, ([.int .i64 0, .string ⟨#[]⟩, .int .i64 s.size, .int .i64 s.size] : List Value)[j]? = some u → (wr.alloc (.cells #[.int .i64 0, .string ⟨#[]⟩, .int .i64 s.size, .int .i64 s.size] 31)).cell? ((⟨wr.heap.size, 0, none⟩ : Addr).add j) = some u := World.news_of_block (heap_alloc_new wr _)
      have NEWS := Lib.hid news
      have hone : ∀ u ∈ ([.int .i64 0, .string ⟨#[]⟩, .int .i64 s.size, .int .i64 s.size] : List Value), u.oneCell' = true := by
        intro u hu
        simp only [List.mem_cons, List.not_mem_nil, or_false] at hu
        rcases hu with rfl | rfl | rfl | rfl <;> rfl
      have HONE := Lib.hid hone
      have ownA : Toks (wr.alloc (.cells #[.int .i64 0, .string ⟨#[]⟩, .int .i64 s.size, .int .i64 s.size] 31)) w.heap.size u5 done := HT.out.below ((Below.refl _ _).alloc (Nat.le_refl _) _)
      have OWN := Lib.hid ownA
      have hs2 : (wr.alloc (.cells #[.int .i64 0, .string ⟨#[]⟩, .int .i64 s.size, .int .i64 s.size] 31)).heap.size = wr.heap.size + 1 := by simp
      have HS2 := Lib.hid hs2
      have hbw := HB.out.size
      clear hend news hone ownA hs2
      go_wp2_with (at_builtin; refine wpList_append_own_at _ rfl (.tmp 36) (.tmp 42) 23 rfl w.heap.size 31 i0 _ 4 40 Tryd.underlying23 HI.out HZ0.out HZ1.out HZ2.out rfl (by decide) u5 done.length (toksC done) rfl OWN.out ⟨wr.heap.size, 0, none⟩ 1 1 [.int .i64 0, .string ⟨#[]⟩, .int .i64 s.size, .int .i64 s.size] rfl rfl NEWS.out HONE.out (by unfold maxLen; omega) (by omega) (by rw [HS2.out]; omega) ?_; intro v' w3 hown hgrow _ hat)
      go_ret3
      refine ⟨?_, Below.of_grown (HB.out.alloc hbw _) hgrow (by rw [HS2.out]; omega) (fun k hk => (OWN.out.lt k hk).1)⟩
      unfold TokIs
      rw [HAe.out, HEND.out]
      refine ⟨v', rfl, ?_⟩
      unfold Toks
      rw [toksC_app, List.length_append]
      exact hown
end Lxw
end Go.Proofs.YtelejpajnemmfaaDoor
