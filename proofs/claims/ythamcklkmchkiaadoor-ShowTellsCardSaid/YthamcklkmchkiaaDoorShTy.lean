/-
  DERIVED. LAYER 19 (value), the reference's, walked: a value's children.
  DERIVED. LAYER 3 (ty), as the reference has it: types as rows of nodes, plain; and in memory.
-/
import Derived.Test.YthamcklkmchkiaaDoorShRows
namespace Go.Proofs.YthamcklkmchkiaaDoor
open Go.RowKit
namespace Shw
open Gl Glw Sh

theorem infoVN : (Tryd.prog.info? 38).map (fun i => (i.zero, i.size, i.bytes)) = some (some (.agg #[.int .i64 0, .string ⟨#[]⟩, .string ⟨#[]⟩, .int .i64 0, .int .i64 0, .slice none 0 0, .slice none 0 0]), 7, 104) := by kernel_rfl
theorem infoVal : (Tryd.prog.info? 29).map (fun i => (i.zero, i.size, i.bytes)) = some (some (.slice none 0 0), 1, 24) := by kernel_rfl

theorem kidsGo_step (c : Nat) (L : List VN) (k : Nat) (hk : k < L.length) : kidsGo (c + 1) (L.drop k) = ((L.drop k).take (endV (L.drop k))) :: kidsGo c (L.drop (k + endV (L.drop k))) := by
  rw [← List.drop_drop, List.drop_eq_getElem_cons hk, kidsGo]
theorem kidsGo_nil : ∀ c, kidsGo c [] = []
  | 0 => by rw [kidsGo]
  | c + 1 => by rw [kidsGo]
theorem endV_drop (L : List VN) (k : Nat) (hk : k < L.length) : 1 ≤ endV (L.drop k) ∧ k + endV (L.drop k) ≤ L.length := by
  have h := endGo_le (L.drop k) 1
  rw [List.length_drop] at h
  have := endGo_pos (L[k]) (L.drop (k + 1)) 1
  rw [← List.drop_eq_getElem_cons hk] at this
  unfold endV
  exact ⟨this, by omega⟩

set_option maxHeartbeats 4000000 in
set_option maxRecDepth 100000 in
theorem Kids19 (b off cap : Nat) (L : List VN) (hne : 0 < L.length) (hcap : L.length ≤ cap) (w : World) (hRV : RdV w b off L) (hL : L.length ≤ 1000000) :
    Calls Tryd.prog 31 #[.slice (some ⟨b, off, none⟩) L.length cap] w fun e w' => ∃ v, e = .returned v ∧ RowsOf w' w.heap.size 29 38 7 v ((kidsV L).map vnsC) ∧ Below w.heap.size w w' := by
  obtain ⟨i0, hi, hz0, hz1, hz2⟩ := info_parts infoVN
  obtain ⟨j0, hj, hy0, hy1, hy2⟩ := info_parts infoVal
  obtain ⟨n, hn, b0, b1, b2, b3, b4, b5, b6⟩ := hRV.at_ hne
  have HRV := Lib.hid hRV
  have HN := Lib.hid hn
  have HI := Lib.hid hi
  have HZ0 := Lib.hid hz0
  have HZ1 := Lib.hid hz1
  have HZ2 := Lib.hid hz2
  have HJ := Lib.hid hj
  have HY0 := Lib.hid hy0
  have HY1 := Lib.hid hy1
  have HY2 := Lib.hid hy2
  have hE : ∀ i w, i ≤ L.length → RdV w b off L → Calls Tryd.prog 47 #[.slice (some ⟨b, off, none⟩) L.length cap, .int .i64 (i : Nat)] w fun e w' => e = .returned (.int .i64 (i + endV (L.drop i) : Nat)) ∧ Below w.heap.size w w' := fun i w hi hR => End19 b off cap i L hi w hR hL
  have HEn := Lib.hid hE
  have hmy := fun w => many19 n w
  have HMY := Lib.hid hmy
  clear hRV hn hi hz0 hz1 hz2 hj hy0 hy1 hy2 hE hmy b0 b1 b2 b3 b4 b5 b6
  go_enter Tryd.func31, Tryd.ntmps31
  go_wp2_with fail
  go_loopw [3, 4, 5] (fun o a k wr => ∃ (at' c : Nat) (done : List (List VN)), a = .int .i64 at' ∧ k = .int .i64 c ∧ done.length = c ∧ 1 ≤ at' ∧ at' ≤ L.length ∧ c < at' ∧ kidsV L = done ++ kidsGo ((manyV n).toNat - c) (L.drop at') ∧
    RowsOf wr w.heap.size 29 38 7 o (done.map vnsC) ∧ Below w.heap.size w wr) (fun _ a _ _ => L.length - (intOf a).toNat)
  case atStart =>
    refine ⟨1, 0, [], rfl, rfl, rfl, Nat.le_refl _, hne, by omega, ?_, RowsOf.empty _ _ _ _ _ (Nat.le_refl _), (Below.refl _ _).alloc (Nat.le_refl _) _⟩
    have h := HN.out
    rw [List.getElem?_eq_getElem hne] at h
    rw [List.nil_append, Nat.sub_zero]
    have h2 : L = n :: L.drop 1 := by
      have := List.drop_eq_getElem_cons hne
      rw [List.drop_zero, Option.some.inj h] at this
      exact this
    conv => lhs; rw [h2]
    rw [kidsV]
  case round =>
    obtain ⟨at', c, done, rfl, rfl, hdl, ha1, ha2, hca, heq, hrows, hB⟩ := hrel
    have HEQ := Lib.hid heq
    have HROWS := Lib.hid hrows
    have HB := Lib.hid hB
    have HDL := Lib.hid hdl
    have HR := Lib.hid (HRV.out.since HRV.out.1 hB)
    clear heq hrows hB hdl
    obtain ⟨n', hn', b0, b1, b2, b3, b4, b5, b6⟩ := HR.out.at_ hne
    have hnn : n' = n := by
      have := HN.out
      rw [hn'] at this
      exact Option.some.inj this
    subst hnn
    clear hn'
    simp only [Nat.zero_mul, Nat.add_zero] at b0 b1 b2 b3 b4 b5 b6
    have ha0 : (0 : Int) ≤ at' := by omega
    go_wp2_with fail
    refine (HMY.out _).mono ?_
    rintro e w1 ⟨rfl, q1⟩
    dsimp only
    clear b0 b1 b2 b3 b4 b5 b6
    have HB1 := Lib.hid (HB.out.trans (q1.mono HB.out.size))
    have HW1 := Lib.hid (HROWS.out.below q1)
    have HR1 := Lib.hid (HR.out.since (Nat.lt_of_lt_of_le HRV.out.1 HB.out.size) q1)
    clear q1
    by_cases hc : (c : Int) < manyV n'
    · have qc : decide ((c : Int) < manyV n') = true := by simpa using hc
      by_cases ha : at' < L.length
      · have qa : decide ((at' : Int) < L.length) = true := by simp; omega
        have he := endV_drop L at' ha
        have hks := kidsGo_step ((manyV n').toNat - (c + 1)) L at' ha
        rw [show (manyV n').toNat - (c + 1) + 1 = (manyV n').toNat - c by omega] at hks
        have HKS := Lib.hid hks
        have hE1 := HEn.out at' w1 (by omega) HR1.out
        obtain ⟨E, hEe⟩ : ∃ E, endV (L.drop at') = E := ⟨_, rfl⟩
        obtain ⟨T, hT⟩ : ∃ T, at' + E = T := ⟨_, rfl⟩
        rw [hEe] at hE1 he
        rw [hT] at hE1 he
        have hTa : T - at' = E := by omega
        have HT := Lib.hid hT
        have HTA := Lib.hid hTa
        have HE1 := Lib.hid hE1
        have HEE := Lib.hid hEe
        clear hks hE1 hEe HEn hc hT hTa
        go_wp2_with fail
        refine HE1.out.mono ?_
        rintro e w2 ⟨rfl, q2⟩
        dsimp only
        have HB2 := Lib.hid (HB1.out.trans (q2.mono HB1.out.size))
        have HW2 := Lib.hid (HW1.out.below q2)
        have HR2 := Lib.hid (HR1.out.since (Nat.lt_of_lt_of_le HRV.out.1 HB1.out.size) q2)
        clear q2 HW1 HR1 HMY HE1
        obtain ⟨xs, hxs, _⟩ := HW2.out
        have HXS := Lib.hid hxs
        have hbw : w.heap.size ≤ w2.heap.size := HB2.out.size
        have hdl : done.length = c := HDL.out
        obtain ⟨K, hK⟩ : ∃ K, (L.drop at').take (T - at') = K := ⟨_, rfl⟩
        have hKl : K.length = T - at' := by rw [← hK, List.length_take, List.length_drop]; omega
        have own1 : (w2.alloc (.cells #[] 38)).ownsRow w2.heap.size 38 7 (.slice (some ⟨w2.heap.size, 0, none⟩) 0 0) 0 [] := World.ownsRow_lit w2 #[] 0 (Nat.le_refl _) (Nat.zero_le _) rfl
        have hcw : Cells (w2.alloc (.cells #[] 38)) b (off + at' * 7) (vnsC K) := by
          have := (HR2.out.sub at' (T - at')).cells
          rw [hK] at this
          exact this.of_block (Below.heap_alloc _ _ _ HR2.out.1)
        have hln : (vnsC K).length = (T - at') * 7 := by rw [vnsC_len, hKl]
        have OWN1 := Lib.hid own1
        have NEWS1 := Lib.hid hcw.add
        have LEN1 := Lib.hid hln
        have ONE1 := Lib.hid (vnsC_one K)
        have HKK := Lib.hid hK
        have hE0 : 0 < T - at' := by have := HTA.out; omega
        have hcl : c < L.length := by omega
        have hs2 : (w2.alloc (.cells #[] 38)).heap.size = w2.heap.size + 1 := by simp
        have HS2 := Lib.hid hs2
        clear own1 hcw hln hxs hdl hK hs2
        have hml : (done.map vnsC).length = c := by rw [List.length_map]; exact HDL.out
        have HML := Lib.hid hml
        clear hml
        go_wp2_with (first
          | (at_builtin; refine wpList_append_lies _ rfl (.tmp 26) (.tmp 30) 29 rfl w2.heap.size 38 i0 _ 7 104 Tryd.underlying29 HI.out HZ0.out HZ1.out HZ2.out rfl (by decide) (.slice (some ⟨w2.heap.size, 0, none⟩) 0 0) 0 [] rfl OWN1.out ⟨b, off + at' * 7, none⟩ (T - at') (cap - at') (vnsC K) rfl LEN1.out NEWS1.out ONE1.out hE0 (by unfold maxLen; omega) (by omega) (by rw [HS2.out]; omega) _ HS2.out ?_
             intro g1 cap1 w3 hown1 hgr1 hat1 hlt1
             have hb3 : Below w2.heap.size w2 w3 := ((Below.refl _ _).alloc (Nat.le_refl _) _).grown hgr1 (by rw [HS2.out]; omega) (by intro k hk; simp [Value.ownBlock] at hk; omega)
             have hb4 : Below w2.heap.size w2 (w3.alloc (.cells #[.slice (some ⟨g1, 0, none⟩) (T - at') cap1] 29)) := hb3.alloc hb3.size _
             have own2 := own_keep HXS.out (fun k hk => hb4.block k (own_lt HXS.out hk).2)
             have hs3 : (w3.alloc (.cells #[.slice (some ⟨g1, 0, none⟩) (T - at') cap1] 29)).heap.size = w3.heap.size + 1 := by simp
             have hw23 : w2.heap.size ≤ w3.heap.size := hb3.size
             have HO1 := Lib.hid hown1
             have HA1 := Lib.hid hat1
             have HB4 := Lib.hid hb4
             have OWN2 := Lib.hid own2
             have HS3 := Lib.hid hs3
             clear hown1 hgr1 hat1 hb3 hb4 own2 hs3)
          | (at_builtin; refine wpList_append_lies _ rfl (.tmp 25) (.tmp 32) 58 rfl w.heap.size 29 j0 _ 1 24 Tryd.underlying58 HJ.out HY0.out HY1.out HY2.out rfl (by decide) u3 _ _ rfl OWN2.out ⟨w3.heap.size, 0, none⟩ 1 1 [.slice (some ⟨g1, 0, none⟩) (T - at') cap1] rfl rfl (cell_one_new _ _ _) (by intro u hu; rw [List.mem_singleton.1 hu]; rfl) (by decide) (by rw [HML.out]; unfold maxLen; omega) (by rw [HML.out]; omega) (by rw [HS3.out]; omega) _ HS3.out ?_
             intro g2 cap2 w4 hown2 hgr2 hat2 hlt2
             have HO2 := Lib.hid hown2
             have HG2 := Lib.hid hgr2
             have HA2 := Lib.hid hat2
             clear hown2 hgr2 hat2))
        have hK1 : w2.heap.size ≤ g1 ∧ T - at' ≤ cap1 ∧ ∃ cs fr, (w3.alloc (.cells #[.slice (some ⟨g1, 0, none⟩) (T - at') cap1] 29)).heap[g1]? = some (.cells cs 38 fr) := by
          rcases HO1.out.2 with ⟨h, _⟩ | ⟨g, cp, cur, h, h1, h2, h3, _⟩
          · simp at h
          · simp only [Value.slice.injEq, Option.some.injEq, Addr.mk.injEq, and_true] at h
            obtain ⟨rfl, _, rfl⟩ := h
            exact ⟨h1, by omega, cur, (0, 0), (Below.heap_alloc _ _ _ hlt1).trans h2⟩
        have hcell : Cells (w3.alloc (.cells #[.slice (some ⟨g1, 0, none⟩) (T - at') cap1] 29)) g1 0 (vnsC K) := by
          intro j u hju
          rw [Nat.zero_add]
          have hj : j < (vnsC K).length := by
            rcases Nat.lt_or_ge j (vnsC K).length with h | h
            · exact h
            · rw [List.getElem?_eq_none h] at hju; cases hju
          rw [LEN1.out] at hj
          have := HO1.out.cellAt j (by omega)
          rw [List.nil_append, hju] at this
          rw [← this]
          exact World.cell?_of_block (a := ⟨g1, j, none⟩) (Below.heap_alloc _ _ _ hlt1)
        have hbase : w.heap.size ≤ w2.heap.size := hbw
        refine ⟨⟨T, c + 1, done ++ [K], rfl, by simp, by rw [List.length_append, HDL.out]; rfl, by omega, by omega, by have := HTA.out; omega, ?_, ?_, ?_⟩, by simp [intOf]; have := HTA.out; omega⟩
        · rw [HEQ.out, HKS.out, HEE.out, HT.out, ← HKK.out, HTA.out, List.append_assoc]
          rfl
        · rw [List.map_append]
          have hown := HO2.out
          have hv : (Value.slice (some ⟨g2, 0, none⟩) (done.length + 1) cap2) = .slice (some ⟨g2, 0, none⟩) ((done.map vnsC).length + 1) cap2 := by rw [List.length_map]
          rw [hv]
          exact RowsOf.push HW2.out HXS.out HB4.out hK1.1 (by rw [HS3.out]; omega) LEN1.out hK1.2.1 hK1.2.2 hcell hown HG2.out (by
            rcases HA2.out with h | h
            · exact .inl h.symm
            · right; rw [HS3.out, ← h]; rfl) hbase
        · exact (HB2.out.trans (HB4.out.mono hbw)).grown HG2.out (by rw [HS3.out]; omega) (fun k hk => (own_lt OWN2.out hk).1)
      · have qa : decide ((at' : Int) < L.length) = false := by simp; omega
        clear hc HEn
        go_wp2_with fail
        go_ret
        refine ⟨u3, rfl, ?_, HB1.out⟩
        have h := HEQ.out
        rw [List.drop_of_length_le (by omega), kidsGo_nil, List.append_nil] at h
        rw [h]
        exact HW1.out
    · have qc : decide ((c : Int) < manyV n') = false := by simpa using hc
      have hz : (manyV n').toNat - c = 0 := by omega
      have HZ := Lib.hid hz
      clear hc hz HEn
      go_wp2_with fail
      go_ret
      refine ⟨u3, rfl, ?_, HB1.out⟩
      have h := HEQ.out
      rw [HZ.out, kidsGo, List.append_nil] at h
      rw [h]
      exact HW1.out
end Shw
end Go.Proofs.YthamcklkmchkiaaDoor
namespace Go.Proofs.YthamcklkmchkiaaDoor
open Go.RowKit
namespace Sh
open Gl

/-- A node of a type. -/
structure TN where
  k : Int
  nm : ByteArray
  n : Int
def manyT (t : TN) : Int := if t.k = 5 then 2 else if t.k = 6 then t.n else if t.k = 7 then t.n else 0
def stepTy (o : Int) (t : TN) : Int := wrap64 (wrap64 (o - 1) + manyT t)
def endTo : Int → List TN → Nat
  | _, [] => 0
  | o, t :: r => if stepTy o t = 0 then 1 else 1 + endTo (stepTy o t) r
def endT (l : List TN) : Nat := endTo 1 l
/-- The places of so many children, the first one's given. -/
def kidPos (L : List TN) : Nat → Nat → List Nat
  | 0, _ => []
  | c + 1, i => if i < L.length then i :: kidPos L c (i + endT (L.drop i)) else []
def bareT : List TN → List TN
  | [] => []
  | t :: r => ⟨t.k, ⟨#[]⟩, t.n⟩ :: r
def partT (L : List TN) (i : Nat) : List TN := bareT ((L.drop i).take (endT (L.drop i)))
/-- The places of a node's children. -/
def kidsT (L : List TN) (i : Nat) : List Nat := match L[i]? with
  | none => []
  | some t => kidPos L (manyT t).toNat (i + 1)
/-- A node's number is such as it may be, and its kind. -/
def NumOk (t : TN) : Prop := ((t.k = 0 ∨ t.k = 8 ∨ t.k = 9) ∧ 0 ≤ t.n) ∨ ((t.k = 1 ∨ t.k = 2 ∨ t.k = 3 ∨ t.k = 4 ∨ t.k = 5) ∧ t.n = 0) ∨ (t.k = 6 ∧ 0 ≤ t.n ∧ t.n ≤ 50) ∨ (t.k = 7 ∧ 1 ≤ t.n ∧ t.n ≤ 50)

theorem endTo_le : ∀ (l : List TN) (o : Int), endTo o l ≤ l.length
  | [], o => by rw [endTo]; exact Nat.le_refl _
  | n :: r, o => by
    rw [endTo, List.length_cons]
    split
    · omega
    · have := endTo_le r (stepTy o n); omega
theorem endTo_pos (n : TN) (r : List TN) (o : Int) : 1 ≤ endTo o (n :: r) := by
  rw [endTo]; split <;> omega
theorem endT_drop (L : List TN) (k : Nat) (hk : k < L.length) : 1 ≤ endT (L.drop k) ∧ k + endT (L.drop k) ≤ L.length := by
  have h := endTo_le (L.drop k) 1
  rw [List.length_drop] at h
  have := endTo_pos (L[k]) (L.drop (k + 1)) 1
  rw [← List.drop_eq_getElem_cons hk] at this
  unfold endT
  exact ⟨this, by omega⟩
theorem endTo_step (o : Int) (L : List TN) (k : Nat) (n : TN) (h : L[k]? = some n) : endTo o (L.drop k) = if stepTy o n = 0 then 1 else 1 + endTo (stepTy o n) (L.drop (k + 1)) := by
  have hk : k < L.length := by
    rcases Nat.lt_or_ge k L.length with h' | h'
    · exact h'
    · rw [List.getElem?_eq_none h'] at h; cases h
  rw [List.getElem?_eq_getElem hk] at h
  rw [List.drop_eq_getElem_cons hk, Option.some.inj h, endTo]
theorem bareT_len : ∀ l : List TN, (bareT l).length = l.length
  | [] => rfl
  | _ :: _ => rfl
theorem partT_len (L : List TN) (k : Nat) (hk : k < L.length) : (partT L k).length = endT (L.drop k) := by
  have := endT_drop L k hk
  unfold partT
  rw [bareT_len, List.length_take, List.length_drop]
  omega
theorem kidPos_lt (L : List TN) : ∀ (c i p : Nat), p ∈ kidPos L c i → i ≤ p ∧ p < L.length
  | 0, i, p, h => by simp [kidPos] at h
  | c + 1, i, p, h => by
    rw [kidPos] at h
    split at h
    · rename_i hi
      rcases List.mem_cons.1 h with rfl | h
      · exact ⟨Nat.le_refl _, hi⟩
      · have := kidPos_lt L c _ p h
        omega
    · simp at h
theorem kidPos_len (L : List TN) : ∀ (c i : Nat), (kidPos L c i).length ≤ c ∧ (kidPos L c i).length ≤ L.length - i
  | 0, i => by simp [kidPos]
  | c + 1, i => by
    rw [kidPos]
    split
    · rename_i hi
      have := kidPos_len L c (i + endT (L.drop i))
      have := endT_drop L i hi
      rw [List.length_cons]
      omega
    · simp
end Sh
namespace Shw
open Gl Glw Sh

def tnC (n : TN) : List Go.Value := [.int .i64 n.k, .string n.nm, .int .i64 n.n]
def tnsC : List TN → List Go.Value
  | [] => []
  | n :: l => tnC n ++ tnsC l
/-- From address (b, off) on lie the cells of these nodes. -/
def RdT (w : World) (b off : Nat) (l : List TN) : Prop := b < w.heap.size ∧ ∀ i n, l[i]? = some n → w.cell? ⟨b, off + i * 3, none⟩ = some (.int .i64 n.k) ∧ w.cell? ⟨b, off + i * 3 + 1, none⟩ = some (.string n.nm) ∧ w.cell? ⟨b, off + i * 3 + 2, none⟩ = some (.int .i64 n.n)
theorem RdT.since {w w' : World} {B b off : Nat} {l : List TN} (h : RdT w b off l) (hbB : b < B) (hb : Below B w w') : RdT w' b off l :=
  ⟨Nat.lt_of_lt_of_le h.1 hb.size, fun i t ht => by
    have hc : ∀ o, w'.cell? ⟨b, o, none⟩ = w.cell? ⟨b, o, none⟩ := fun o => hb.cell (p := ⟨b, o, none⟩) hbB
    rw [hc, hc, hc]
    exact h.2 i t ht⟩
theorem RdT.at_ {w : World} {b off : Nat} {L : List TN} (h : RdT w b off L) {k : Nat} (hk : k < L.length) : ∃ n, L[k]? = some n ∧ w.cell? ⟨b, off + k * 3, none⟩ = some (.int .i64 n.k) ∧ w.cell? ⟨b, off + k * 3 + 1, none⟩ = some (.string n.nm) ∧ w.cell? ⟨b, off + k * 3 + 2, none⟩ = some (.int .i64 n.n) :=
  ⟨L[k], List.getElem?_eq_getElem hk, h.2 k _ (List.getElem?_eq_getElem hk)⟩
theorem tnsC_len : ∀ l : List TN, (tnsC l).length = l.length * 3
  | [] => rfl
  | n :: l => by rw [tnsC, List.length_append, tnsC_len l, List.length_cons]; simp only [tnC, List.length_cons, List.length_nil]; omega
theorem tnsC_at : ∀ (l : List TN) (i : Nat) (n : TN) (j : Nat), l[i]? = some n → j < 3 → (tnsC l)[i * 3 + j]? = (tnC n)[j]?
  | [], i, n, j, h, _ => by simp at h
  | m :: l, 0, n, j, h, hj => by
    simp only [List.getElem?_cons_zero, Option.some.injEq] at h
    subst h
    rw [tnsC, Nat.zero_mul, Nat.zero_add, List.getElem?_append_left (by simpa [tnC] using hj)]
  | m :: l, i + 1, n, j, h, hj => by
    rw [tnsC, List.getElem?_append_right (by simp only [tnC, List.length_cons, List.length_nil]; omega), ← tnsC_at l i n j (by simpa using h) hj]
    congr 1
    simp only [tnC, List.length_cons, List.length_nil]; omega
theorem tnsC_split : ∀ (l : List TN) (j : Nat) (u : Go.Value), (tnsC l)[j]? = some u → ∃ i n r, j = i * 3 + r ∧ r < 3 ∧ l[i]? = some n ∧ (tnC n)[r]? = some u
  | [], j, u, h => by simp [tnsC] at h
  | n :: l, j, u, h => by
    rw [tnsC] at h
    rcases Nat.lt_or_ge j 3 with hj | hj
    · rw [List.getElem?_append_left (by simpa [tnC] using hj)] at h
      exact ⟨0, n, j, by omega, hj, rfl, h⟩
    · rw [List.getElem?_append_right (by simpa [tnC] using hj)] at h
      obtain ⟨i, m, r, e, hr, hm, hu⟩ := tnsC_split l _ u h
      have : (tnC n).length = 3 := rfl
      rw [this] at e
      exact ⟨i + 1, m, r, by omega, hr, by simpa using hm, hu⟩
theorem tnsC_one (l : List TN) : ∀ u ∈ tnsC l, u.oneCell' = true := by
  intro u hu
  obtain ⟨j, hj, rfl⟩ := List.getElem_of_mem hu
  obtain ⟨i, n, r, _, hr, _, hu'⟩ := tnsC_split l j _ (List.getElem?_eq_getElem hj)
  match r, hr, hu' with
  | 0, _, h => rw [← Option.some.inj h]; rfl
  | 1, _, h => rw [← Option.some.inj h]; rfl
  | 2, _, h => rw [← Option.some.inj h]; rfl
theorem RdT.cells {w : World} {b off : Nat} {L : List TN} (h : RdT w b off L) : Cells w b off (tnsC L) := by
  intro j u hj
  obtain ⟨i, n, r, rfl, hr, hn, hu⟩ := tnsC_split L j u hj
  obtain ⟨a0, a1, a2⟩ := h.2 i n hn
  match r, hr, hu with
  | 0, _, h => rw [← Option.some.inj h]; exact a0
  | 1, _, h => rw [← Option.some.inj h]; exact a1
  | 2, _, h => rw [← Option.some.inj h]; exact a2
theorem RdT.of_cells {w : World} {b off : Nat} {L : List TN} (hb : b < w.heap.size) (h : Cells w b off (tnsC L)) : RdT w b off L := by
  refine ⟨hb, fun i n hn => ?_⟩
  have hc : ∀ j, j < 3 → w.cell? ⟨b, off + i * 3 + j, none⟩ = (tnC n)[j]? := fun j hj => by
    have e := tnsC_at L i n j hn hj
    have hl : j < (tnC n).length := hj
    rw [List.getElem?_eq_getElem hl] at e ⊢
    have := h _ _ e
    rw [← Nat.add_assoc] at this
    exact this
  exact ⟨hc 0 (by omega), hc 1 (by omega), hc 2 (by omega)⟩
theorem RdT.sub {w : World} {b off : Nat} {L : List TN} (h : RdT w b off L) (k m : Nat) : RdT w b (off + k * 3) ((L.drop k).take m) := by
  refine ⟨h.1, fun i n hn => ?_⟩
  have e : L[k + i]? = some n := by
    rw [List.getElem?_take] at hn
    split at hn
    · rw [List.getElem?_drop] at hn; exact hn
    · cases hn
  have := h.2 (k + i) n e
  rw [show off + (k + i) * 3 = off + k * 3 + i * 3 by omega] at this
  exact this
end Shw
end Go.Proofs.YthamcklkmchkiaaDoor
