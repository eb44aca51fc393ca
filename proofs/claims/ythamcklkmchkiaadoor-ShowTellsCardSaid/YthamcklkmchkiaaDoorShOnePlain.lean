/-
  DERIVED. LAYER 21 (show): two values are shown alike just if they are the same but for what their functions are: plain.
-/
import Derived.Test.YthamcklkmchkiaaDoorShText
import Derived.Test.YthamcklkmchkiaaDoorGlRefQuote
namespace Go.Proofs.YthamcklkmchkiaaDoor
open Go.RowKit
namespace Sh
open Gl

/-- A function's node, without what it is. -/
def funN (n : VN) : VN := ⟨6, n.lab, ⟨#[]⟩, 0, 0, none, 0, 0, none, 0, 0⟩
mutual
def plainT : VT → VT
  | .mk n ts => if n.k = 6 ∨ n.k = 7 then .mk (funN n) [] else .mk n (plainTs ts)
def plainTs : List VT → List VT
  | [] => []
  | t :: ts => plainT t :: plainTs ts
end
theorem plainTs_len : ∀ ts, (plainTs ts).length = ts.length
  | [] => by rw [plainTs]
  | t :: ts => by rw [plainTs, List.length_cons, List.length_cons, plainTs_len ts]
theorem plain_lab : ∀ t : VT, (rootT (plainT t)).lab = (rootT t).lab
  | .mk n ts => by
    rw [plainT]
    split <;> rfl
mutual
theorem plain_ok : ∀ t : VT, okT t → okT (plainT t)
  | .mk n ts, hok => by
    rw [okT] at hok
    obtain ⟨hu, hm, hk, hts⟩ := hok
    rw [plainT]
    split
    · rw [okT]
      refine ⟨⟨.inr ⟨rfl, rfl⟩, .inr (.inr (.inr (.inr (.inr (.inr (.inl ⟨rfl, rfl, Int.le_refl _, rfl⟩))))))⟩, rfl, fun t h => by simp at h, by rw [okTs]; trivial⟩
    · rename_i h67
      rw [okT]
      refine ⟨hu, by rw [plainTs_len]; exact hm, fun t ht => ?_, plain_oks ts hts⟩
      have : ∃ u ∈ ts, t = plainT u := plain_mem ts t ht
      obtain ⟨u, hu', rfl⟩ := this
      have h := hk u hu'
      refine ⟨fun h4 => by rw [plain_lab]; exact h.1 h4, fun h4 => by rw [plain_lab]; exact h.2.1 h4, fun h7 => absurd (.inr h7) h67⟩
theorem plain_oks : ∀ ts : List VT, okTs ts → okTs (plainTs ts)
  | [], _ => by rw [plainTs, okTs]; trivial
  | t :: ts, hok => by
    rw [okTs] at hok
    rw [plainTs, okTs]
    exact ⟨plain_ok t hok.1, plain_oks ts hok.2⟩
theorem plain_mem : ∀ (ts : List VT) (t : VT), t ∈ plainTs ts → ∃ u ∈ ts, t = plainT u
  | [], t, h => by rw [plainTs] at h; simp at h
  | u :: ts, t, h => by
    rw [plainTs] at h
    rcases List.mem_cons.1 h with rfl | h
    · exact ⟨u, by simp, rfl⟩
    · obtain ⟨x, hx, e⟩ := plain_mem ts t h
      exact ⟨x, by simp [hx], e⟩
end
mutual
theorem plain_show : ∀ t : VT, showT (plainT t) = showT t
  | .mk n ts => by
    rw [plainT]
    split
    · rename_i h
      rw [fun_T (.mk (funN n) []) (.inl rfl), fun_T (.mk n ts) h]
    · rw [showT, showT, plain_shows ts, plain_labs ts]
theorem plain_shows : ∀ ts : List VT, showTs (plainTs ts) = showTs ts
  | [] => by rw [plainTs]
  | t :: ts => by rw [plainTs, showTs, showTs, plain_show t, plain_shows ts]
theorem plain_labs : ∀ ts : List VT, labsT (plainTs ts) = labsT ts
  | [] => by rw [plainTs]
  | t :: ts => by
    have h := plain_labs ts
    unfold labsT at h ⊢
    rw [plainTs, List.map_cons, List.map_cons, plain_lab, h]
end

/-- What is asked of a node when values are compared. -/
def er (n : VN) : Int × ByteArray × ByteArray × Int × Int := (n.k, n.lab, n.nm, n.num, n.many)
mutual
theorem showF_er : ∀ (f : Nat) (l l' : List VN), l.map er = l'.map er → showF f l = showF f l'
  | 0, l, l', _ => by rw [showF, showF]
  | f + 1, [], [], _ => rfl
  | f + 1, [], b :: l', h => by simp at h
  | f + 1, a :: l, [], h => by simp at h
  | f + 1, a :: l, b :: l', h => by
    rw [List.map_cons, List.map_cons, List.cons.injEq] at h
    obtain ⟨h1, h2⟩ := h
    unfold er at h1
    simp only [Prod.mk.injEq] at h1
    obtain ⟨e1, e2, e3, e4, e5⟩ := h1
    rw [showF, showF, e1, e3, e4, e5, showF_er f l l' h2]
    have : rowsG (showF f) b.many.toNat l = rowsG (showF f) b.many.toNat l' := rowsG_er f b.many.toNat l l' h2
    rw [this]
theorem rowsG_er : ∀ (f c : Nat) (l l' : List VN), l.map er = l'.map er → rowsG (showF f) c l = rowsG (showF f) c l'
  | f, 0, l, l', _ => by rw [rowsG, rowsG]
  | f, c + 1, [], [], _ => rfl
  | f, c + 1, [], b :: l', h => by simp at h
  | f, c + 1, a :: l, [], h => by simp at h
  | f, c + 1, a :: l, b :: l', h => by
    have h0 := showF_er f (a :: l) (b :: l') h
    have hab : a.lab = b.lab := by
      rw [List.map_cons, List.map_cons, List.cons.injEq] at h
      have h1 := h.1
      unfold er at h1
      simp only [Prod.mk.injEq] at h1
      exact h1.2.1
    rw [rowsG, rowsG, h0, hab]
    cases showF f (b :: l') with
    | none => rfl
    | some p =>
      obtain ⟨t, m⟩ := p
      simp only []
      rw [rowsG_er f c ((a :: l).drop m) ((b :: l').drop m) (by rw [List.map_drop, List.map_drop, h])]
end

/-! What a value tells: a tree without more; two that are told alike are the same. -/
mutual
inductive PT where
  | num (n : Int)
  | bool (b : Bool)
  | text (s : ByteArray)
  | unit
  | fn
  | tag (nm : ByteArray) (p : PT)
  | row (ps : PTs)
inductive PTs where
  | nil
  | cons (l : ByteArray) (p : PT) (ps : PTs)
end
def PTs.len : PTs → Nat
  | .nil => 0
  | .cons _ _ ps => ps.len + 1
mutual
def okP : PT → Prop
  | .tag nm p => tagL nm.data.toList = true ∧ okP p
  | .row ps => okPs ps
  | .num _ => True
  | .bool _ => True
  | .text _ => True
  | .unit => True
  | .fn => True
def okPs : PTs → Prop
  | .nil => True
  | .cons l p ps => wordL l.data.toList = true ∧ okP p ∧ okPs ps
end
mutual
def showP : PT → List UInt8
  | .num n => Lib.itoa n
  | .bool b => if b = true then [116, 114, 117, 101] else [102, 97, 108, 115, 101]
  | .text s => quoteL s.data.toList
  | .unit => [40, 41]
  | .fn => [60, 102, 117, 110, 62]
  | .tag nm p => 91 :: (nm.data.toList ++ (58 :: 32 :: (showP p ++ [93])))
  | .row ps => 123 :: (headP ps ++ [125])
def headP : PTs → List UInt8
  | .nil => []
  | .cons l p ps => l.data.toList ++ (58 :: 32 :: (showP p ++ tailP ps))
def tailP : PTs → List UInt8
  | .nil => []
  | .cons l p ps => 44 :: 32 :: (l.data.toList ++ (58 :: 32 :: (showP p ++ tailP ps)))
end
mutual
def flatP (lab : ByteArray) : PT → List (Int × ByteArray × ByteArray × Int × Int)
  | .num n => [(0, lab, ⟨#[]⟩, n, 0)]
  | .bool b => [(1, lab, ⟨#[]⟩, if b = true then 1 else 0, 0)]
  | .text s => [(2, lab, s, 0, 0)]
  | .unit => [(3, lab, ⟨#[]⟩, 0, 0)]
  | .fn => [(6, lab, ⟨#[]⟩, 0, 0)]
  | .tag nm p => (5, lab, nm, 0, 0) :: flatP ⟨#[]⟩ p
  | .row ps => (4, lab, ⟨#[]⟩, 0, (ps.len : Int)) :: flatPs ps
def flatPs : PTs → List (Int × ByteArray × ByteArray × Int × Int)
  | .nil => []
  | .cons l p ps => flatP l p ++ flatPs ps
end

/-- Behind a value's text: nothing, or what ends it. -/
def Term (r : List UInt8) : Prop := r = [] ∨ ∃ c r', r = c :: r' ∧ (c = 44 ∨ c = 93 ∨ c = 125)
theorem term_93 (r : List UInt8) : Term (93 :: r) := .inr ⟨93, r, rfl, by simp⟩
theorem term_125 (r : List UInt8) : Term (125 :: r) := .inr ⟨125, r, rfl, by simp⟩
theorem term_44 (r : List UInt8) : Term (44 :: r) := .inr ⟨44, r, rfl, by simp⟩
/-- A run of bytes of a kind, cut at the first one that is not. -/
theorem run_cut {Q : UInt8 → Prop} : ∀ {a b r s : List UInt8}, (∀ x ∈ a, Q x) → (∀ x ∈ b, Q x) → (r = [] ∨ ∃ c r', r = c :: r' ∧ ¬ Q c) → (s = [] ∨ ∃ c s', s = c :: s' ∧ ¬ Q c) → a ++ r = b ++ s → a = b ∧ r = s
  | [], [], r, s, _, _, _, _, h => ⟨rfl, h⟩
  | [], y :: b, r, s, _, hb, hr, _, h => by
    rw [List.nil_append] at h
    rcases hr with rfl | ⟨c, r', rfl, hc⟩
    · simp at h
    · rw [List.cons_append] at h
      injection h with h _
      exact absurd (hb y (by simp)) (h ▸ hc)
  | x :: a, [], r, s, ha, _, _, hs, h => by
    rw [List.nil_append] at h
    rcases hs with rfl | ⟨c, s', rfl, hc⟩
    · simp at h
    · rw [List.cons_append] at h
      injection h with h _
      exact absurd (ha x (by simp)) (h ▸ hc)
  | x :: a, y :: b, r, s, ha, hb, hr, hs, h => by
    rw [List.cons_append, List.cons_append] at h
    injection h with h1 h2
    obtain ⟨e1, e2⟩ := run_cut (fun z hz => ha z (by simp [hz])) (fun z hz => hb z (by simp [hz])) hr hs h2
    exact ⟨by rw [h1, e1], e2⟩
theorem word_ne {l : List UInt8} (h : wordL l = true ∨ tagL l = true) : ∀ x ∈ l, x ≠ 58 := by
  have hb : ∀ c : UInt8, behindB c = true → c ≠ 58 := fun c h e => by subst e; exact absurd h (by decide)
  cases l with
  | nil => intro x hx; simp at hx
  | cons c r =>
    intro x hx
    rcases h with h | h
    · rw [wordL, Bool.and_eq_true] at h
      rcases List.mem_cons.1 hx with rfl | hx
      · rintro rfl; exact absurd h.1 (by decide)
      · exact hb x (List.all_eq_true.1 h.2 x hx)
    · rw [tagL, Bool.and_eq_true] at h
      rcases List.mem_cons.1 hx with rfl | hx
      · rintro rfl; exact absurd h.1 (by decide)
      · exact hb x (List.all_eq_true.1 h.2 x hx)
theorem word_head {l : List UInt8} (h : wordL l = true) : ∃ c r, l = c :: r ∧ c ≠ 125 ∧ c ≠ 44 := by
  cases l with
  | nil => simp [wordL] at h
  | cons c r =>
    rw [wordL, Bool.and_eq_true] at h
    refine ⟨c, r, rfl, ?_, ?_⟩
    · rintro rfl; exact absurd h.1 (by decide)
    · rintro rfl; exact absurd h.1 (by decide)
theorem itoa_head (n : Int) : ∃ c r, Lib.itoa n = c :: r ∧ 45 ≤ c.toNat ∧ c.toNat ≤ 57 := by
  cases h : Lib.itoa n with
  | nil => exact absurd h (Shw.itoa_ne n)
  | cons c r =>
    refine ⟨c, r, rfl, ?_⟩
    rcases Shw.itoa_at n 0 c (by rw [h]; rfl) with h | ⟨_, h, _⟩
    · omega
    · rw [h]; decide
theorem itoa_q (n : Int) : ∀ x ∈ Lib.itoa n, 45 ≤ x.toNat ∧ x.toNat ≤ 57 := by
  intro x hx
  obtain ⟨i, hi, rfl⟩ := List.getElem_of_mem hx
  rcases Shw.itoa_at n i _ (List.getElem?_eq_getElem hi) with h | ⟨_, h, _⟩
  · omega
  · rw [h]; decide
theorem term_q {r : List UInt8} (h : Term r) : r = [] ∨ ∃ c r', r = c :: r' ∧ ¬ (45 ≤ c.toNat ∧ c.toNat ≤ 57) := by
  rcases h with h | ⟨c, r', h, hc⟩
  · exact .inl h
  · refine .inr ⟨c, r', h, ?_⟩
    rcases hc with rfl | rfl | rfl <;> decide
/-- The first byte tells which kind a value is of. -/
def kindP : PT → Nat
  | .num _ => 0
  | .bool _ => 1
  | .text _ => 2
  | .unit => 3
  | .fn => 6
  | .tag _ _ => 5
  | .row _ => 4
def kindC (c : UInt8) : Nat := if 45 ≤ c.toNat ∧ c.toNat ≤ 57 then 0 else if c = 116 ∨ c = 102 then 1 else if c = 34 then 2 else if c = 40 then 3 else if c = 60 then 6 else if c = 91 then 5 else 4
theorem head_kind (p : PT) : ∃ c r, showP p = c :: r ∧ kindC c = kindP p := by
  cases p with
  | num n =>
    obtain ⟨c, r, h, h1⟩ := itoa_head n
    refine ⟨c, r, by rw [showP, h], ?_⟩
    unfold kindC kindP
    rw [if_pos h1]
  | bool b => cases b with
    | true => exact ⟨116, _, by rw [showP, if_pos rfl], by decide⟩
    | false => exact ⟨102, _, by rw [showP, if_neg (by simp)], by decide⟩
  | text s => exact ⟨34, _, by rw [showP]; rfl, by show kindC 34 = 2; decide⟩
  | unit => exact ⟨40, _, by rw [showP], by unfold kindP; decide⟩
  | fn => exact ⟨60, _, by rw [showP], by unfold kindP; decide⟩
  | tag nm p => exact ⟨91, _, by rw [showP], by show kindC 91 = 5; decide⟩
  | row ps => exact ⟨123, _, by rw [showP], by show kindC 123 = 4; decide⟩
theorem kind_eq {p q : PT} {r s : List UInt8} (h : showP p ++ r = showP q ++ s) : kindP p = kindP q := by
  obtain ⟨c, a, h1, k1⟩ := head_kind p
  obtain ⟨d, b, h2, k2⟩ := head_kind q
  rw [h1, h2, List.cons_append, List.cons_append] at h
  injection h with h _
  rw [← k1, ← k2, h]
theorem data_inj {a b : ByteArray} (h : a.data.toList = b.data.toList) : a = b := (Glw.of_data h).trans (Glw.of_data rfl).symm
theorem lab_cut {a b r s : List UInt8} (ha : wordL a = true ∨ tagL a = true) (hb : wordL b = true ∨ tagL b = true) (h : a ++ (58 :: r) = b ++ (58 :: s)) : a = b ∧ r = s := by
  obtain ⟨h1, h2⟩ := run_cut (Q := fun x => x ≠ 58) (word_ne ha) (word_ne hb) (.inr ⟨58, r, rfl, by simp⟩) (.inr ⟨58, s, rfl, by simp⟩) h
  injection h2 with _ h2
  exact ⟨h1, h2⟩

mutual
theorem inj_P : ∀ (p q : PT) (r s : List UInt8), okP p → okP q → Term r → Term s → showP p ++ r = showP q ++ s → p = q ∧ r = s
  | .num n, q, r, s, _hp, _hq, hr, hs, h => by
    have hk := kind_eq h
    cases q <;> simp only [kindP] at hk <;> try omega
    rename_i m
    rw [showP, showP] at h
    obtain ⟨h1, h2⟩ := run_cut (Q := fun c => 45 ≤ c.toNat ∧ c.toNat ≤ 57) (itoa_q n) (itoa_q m) (term_q hr) (term_q hs) h
    exact ⟨by rw [Shw.itoa_inj h1], h2⟩
  | .bool b, q, r, s, _hp, _hq, hr, hs, h => by
    have hk := kind_eq h
    cases q <;> simp only [kindP] at hk <;> try omega
    rename_i d
    rw [showP, showP] at h
    cases b <;> cases d <;> simp at h
    · exact ⟨rfl, h⟩
    · exact ⟨rfl, h⟩
  | .text a, q, r, s, _hp, _hq, hr, hs, h => by
    have hk := kind_eq h
    cases q <;> simp only [kindP] at hk <;> try omega
    rename_i b
    rw [showP, showP] at h
    have h1 := unquote_quote a.data.toList r
    rw [h, unquote_quote] at h1
    simp only [Prod.mk.injEq] at h1
    have e := data_inj h1.1
    subst e
    exact ⟨rfl, List.append_cancel_left h⟩
  | .unit, q, r, s, _hp, _hq, hr, hs, h => by
    have hk := kind_eq h
    cases q <;> simp only [kindP] at hk <;> try omega
    rw [showP] at h
    exact ⟨rfl, List.append_cancel_left h⟩
  | .fn, q, r, s, _hp, _hq, hr, hs, h => by
    have hk := kind_eq h
    cases q <;> simp only [kindP] at hk <;> try omega
    rw [showP] at h
    exact ⟨rfl, List.append_cancel_left h⟩
  | .tag nm p, q, r, s, hp, hq, hr, hs, h => by
    have hk := kind_eq h
    cases q <;> simp only [kindP] at hk <;> try omega
    rename_i nm' p'
    rw [okP] at hp hq
    rw [showP, showP] at h
    simp only [List.cons_append, List.append_assoc, List.nil_append] at h
    injection h with _ h
    obtain ⟨h1, h2⟩ := lab_cut (.inr hp.1) (.inr hq.1) h
    injection h2 with _ h2
    obtain ⟨h3, h4⟩ := inj_P p p' (93 :: r) (93 :: s) hp.2 hq.2 (term_93 r) (term_93 s) h2
    injection h4 with _ h4
    exact ⟨by rw [data_inj h1, h3], h4⟩
  | .row ps, q, r, s, hp, hq, hr, hs, h => by
    have hk := kind_eq h
    cases q <;> simp only [kindP] at hk <;> try omega
    rename_i qs
    rw [okP] at hp hq
    rw [showP, showP] at h
    simp only [List.cons_append, List.append_assoc, List.nil_append] at h
    injection h with _ h
    obtain ⟨h1, h2⟩ := inj_H ps qs r s hp hq h
    exact ⟨by rw [h1], h2⟩
theorem inj_H : ∀ (ps qs : PTs) (r s : List UInt8), okPs ps → okPs qs → headP ps ++ (125 :: r) = headP qs ++ (125 :: s) → ps = qs ∧ r = s
  | .nil, .nil, r, s, _, _, h => by
    rw [headP, List.nil_append, List.nil_append] at h
    injection h with _ h
    exact ⟨rfl, h⟩
  | .nil, .cons l q qs, r, s, _, hq, h => by
    rw [okPs] at hq
    obtain ⟨c, x, e, hc, _⟩ := word_head hq.1
    rw [headP, headP, List.nil_append, e] at h
    simp only [List.cons_append] at h
    injection h with h _
    exact absurd h.symm hc
  | .cons l p ps, .nil, r, s, hp, _, h => by
    rw [okPs] at hp
    obtain ⟨c, x, e, hc, _⟩ := word_head hp.1
    rw [headP, headP, List.nil_append, e] at h
    simp only [List.cons_append] at h
    injection h with h _
    exact absurd h hc
  | .cons l p ps, .cons l' q qs, r, s, hp, hq, h => by
    rw [okPs] at hp hq
    rw [headP, headP] at h
    simp only [List.cons_append, List.append_assoc] at h
    obtain ⟨h1, h2⟩ := lab_cut (.inl hp.1) (.inl hq.1) h
    injection h2 with _ h2
    obtain ⟨h3, h4⟩ := inj_P p q (tailP ps ++ (125 :: r)) (tailP qs ++ (125 :: s)) hp.2.1 hq.2.1 (tail_term ps r) (tail_term qs s) h2
    obtain ⟨h5, h6⟩ := inj_Tl ps qs r s hp.2.2 hq.2.2 h4
    exact ⟨by rw [data_inj h1, h3, h5], h6⟩
theorem inj_Tl : ∀ (ps qs : PTs) (r s : List UInt8), okPs ps → okPs qs → tailP ps ++ (125 :: r) = tailP qs ++ (125 :: s) → ps = qs ∧ r = s
  | .nil, .nil, r, s, _, _, h => by
    rw [tailP, List.nil_append, List.nil_append] at h
    injection h with _ h
    exact ⟨rfl, h⟩
  | .nil, .cons l q qs, r, s, _, _, h => by
    rw [tailP, tailP, List.nil_append, List.cons_append] at h
    injection h with h _
    exact absurd h (by decide)
  | .cons l p ps, .nil, r, s, _, _, h => by
    rw [tailP, tailP, List.nil_append, List.cons_append] at h
    injection h with h _
    exact absurd h (by decide)
  | .cons l p ps, .cons l' q qs, r, s, hp, hq, h => by
    rw [okPs] at hp hq
    rw [tailP, tailP] at h
    simp only [List.cons_append, List.append_assoc] at h
    injection h with _ h
    injection h with _ h
    obtain ⟨h1, h2⟩ := lab_cut (.inl hp.1) (.inl hq.1) h
    injection h2 with _ h2
    obtain ⟨h3, h4⟩ := inj_P p q (tailP ps ++ (125 :: r)) (tailP qs ++ (125 :: s)) hp.2.1 hq.2.1 (tail_term ps r) (tail_term qs s) h2
    obtain ⟨h5, h6⟩ := inj_Tl ps qs r s hp.2.2 hq.2.2 h4
    exact ⟨by rw [data_inj h1, h3, h5], h6⟩
theorem tail_term : ∀ (ps : PTs) (r : List UInt8), Term (tailP ps ++ (125 :: r))
  | .nil, r => by rw [tailP, List.nil_append]; exact term_125 r
  | .cons l p ps, r => by rw [tailP, List.cons_append]; exact term_44 _
end

mutual
/-- What a value tells. -/
def codeT : VT → PT
  | .mk n ts => if n.k = 0 then .num n.num else if n.k = 1 then .bool (decide (n.num = 1)) else if n.k = 2 then .text n.nm else if n.k = 3 then .unit
    else if n.k = 5 then .tag n.nm (hdT ts) else if n.k = 4 then .row (codeTs ts) else .fn
def codeTs : List VT → PTs
  | [] => .nil
  | t :: ts => .cons (rootT t).lab (codeT t) (codeTs ts)
def hdT : List VT → PT
  | [] => .unit
  | t :: _ => codeT t
end
theorem codeTs_len : ∀ ts, (codeTs ts).len = ts.length
  | [] => by rw [codeTs]; rfl
  | t :: ts => by rw [codeTs, PTs.len, codeTs_len ts]; rfl
theorem uses_tag {n : VN} (h : UsesP n) (h5 : n.k = 5) : tagL n.nm.data.toList = true := by
  rcases h.2 with h | h | h | h | h | h | h | h
  all_goals first | exact h.2.1 | (have := h.1; omega)
mutual
theorem code_ok : ∀ t : VT, okT t → okP (codeT t)
  | .mk n ts, hok => by
    rw [okT] at hok
    obtain ⟨hu, hm, hk, hts⟩ := hok
    rw [codeT]
    split
    · rw [okP]; trivial
    · split
      · rw [okP]; trivial
      · split
        · rw [okP]; trivial
        · split
          · rw [okP]; trivial
          · split
            · rename_i h5
              rw [okP]
              refine ⟨uses_tag hu h5, ?_⟩
              cases ts with
              | nil => rw [hdT, okP]; trivial
              | cons u us =>
                rw [okTs] at hts
                rw [hdT]
                exact code_ok u hts.1
            · split
              · rename_i h4
                rw [okP]
                exact code_oks ts hts (fun t ht => (hk t ht).1 h4)
              · rw [okP]; trivial
theorem code_oks : ∀ ts : List VT, okTs ts → (∀ t ∈ ts, wordL (rootT t).lab.data.toList = true) → okPs (codeTs ts)
  | [], _, _ => by rw [codeTs, okPs]; trivial
  | t :: ts, hok, hw => by
    rw [okTs] at hok
    rw [codeTs, okPs]
    exact ⟨hw t (by simp), code_ok t hok.1, code_oks ts hok.2 fun u hu => hw u (by simp [hu])⟩
end
mutual
theorem code_show : ∀ t : VT, okT t → showT t = showP (codeT t)
  | .mk n ts, hok => by
    rw [okT] at hok
    obtain ⟨hu, hm, hk, hts⟩ := hok
    rw [showT, codeT]
    unfold nodeTx
    split
    · rw [showP]
    · split
      · rw [showP]
        simp only [decide_eq_true_eq]
      · split
        · rw [showP]
        · split
          · rw [showP]
          · split
            · rename_i h5
              rw [showP]
              have hz : manyV n = 1 := by unfold manyV; rw [if_neg (by omega), if_pos h5]
              cases ts with
              | nil => simp at hm; omega
              | cons u us =>
                rw [okTs] at hts
                rw [showTs, hdT, List.headD_cons, code_show u hts.1]
            · split
              · rw [showP]
                congr 1
                cases ts with
                | nil => rw [showTs, codeTs, headP]; rfl
                | cons u us =>
                  rw [okTs] at hts
                  have h1 := code_tail us hts.2
                  rw [showTs, codeTs, headP, ← h1, ← code_show u hts.1]
                  unfold rowTx labsT
                  rw [List.map_cons, List.zipWith_cons_cons, Lib.join_cons]
                  simp
              · rw [showP]
theorem code_tail : ∀ ts : List VT, okTs ts → Lib.joinTail [44, 32] (rowTx (labsT ts) (showTs ts)) = tailP (codeTs ts)
  | [], _ => by rw [showTs, codeTs, tailP]; rfl
  | u :: us, hts => by
    rw [okTs] at hts
    have h1 := code_tail us hts.2
    rw [showTs, codeTs, tailP, ← h1, ← code_show u hts.1]
    unfold rowTx labsT Lib.joinTail
    rw [List.map_cons, List.zipWith_cons_cons, List.map_cons, List.flatten_cons]
    simp
end
theorem nm_nil {s : ByteArray} (h : s.size = 0) : s = ⟨#[]⟩ := by
  have : s.data.toList = [] := List.eq_nil_of_length_eq_zero (by rw [size_data]; exact h)
  exact Glw.of_data this
mutual
theorem code_flat : ∀ t : VT, okT t → (flatT (plainT t)).map er = flatP (rootT t).lab (codeT t)
  | .mk n ts, hok => by
    rw [okT] at hok
    obtain ⟨hu, hm, hk, hts⟩ := hok
    have hu2 := hu.2
    have hroot : (rootT (.mk n ts)).lab = n.lab := rfl
    rw [plainT, codeT, hroot]
    by_cases h67 : n.k = 6 ∨ n.k = 7
    · rw [if_pos h67, if_neg (by omega), if_neg (by omega), if_neg (by omega), if_neg (by omega), if_neg (by omega), if_neg (by omega), flatP, flatT, flatTs]
      rfl
    · rw [if_neg h67]
      rcases hu2 with h | h | h | h | h | h | h | h
      · have hz : manyV n = 0 := by unfold manyV; rw [if_neg (by omega), if_neg (by omega), if_neg (by omega)]
        have : ts = [] := List.eq_nil_of_length_eq_zero (by omega)
        subst this
        rw [if_pos h.1, flatP, plainTs, flatT, flatTs]
        simp only [List.map_cons, List.map_nil, er, h.1, nm_nil h.2.1, h.2.2]
      · have hz : manyV n = 0 := by unfold manyV; rw [if_neg (by omega), if_neg (by omega), if_neg (by omega)]
        have : ts = [] := List.eq_nil_of_length_eq_zero (by omega)
        subst this
        rw [if_neg (by omega), if_pos h.1, flatP, plainTs, flatT, flatTs]
        simp only [List.map_cons, List.map_nil, er, h.1, nm_nil h.2.1, h.2.2.1, decide_eq_true_eq]
        rcases h.2.2.2 with e | e <;> rw [e] <;> simp
      · have hz : manyV n = 0 := by unfold manyV; rw [if_neg (by omega), if_neg (by omega), if_neg (by omega)]
        have : ts = [] := List.eq_nil_of_length_eq_zero (by omega)
        subst this
        rw [if_neg (by omega), if_neg (by omega), if_pos h.1, flatP, plainTs, flatT, flatTs]
        simp only [List.map_cons, List.map_nil, er, h.1, h.2.1, h.2.2]
      · have hz : manyV n = 0 := by unfold manyV; rw [if_neg (by omega), if_neg (by omega), if_neg (by omega)]
        have : ts = [] := List.eq_nil_of_length_eq_zero (by omega)
        subst this
        rw [if_neg (by omega), if_neg (by omega), if_neg (by omega), if_pos h.1, flatP, plainTs, flatT, flatTs]
        simp only [List.map_cons, List.map_nil, er, h.1, nm_nil h.2.1, h.2.2.1, h.2.2.2]
      · have hz : manyV n = max n.many 0 := by unfold manyV; rw [if_pos h.1]
        rw [if_neg (by omega), if_neg (by omega), if_neg (by omega), if_neg (by omega), if_neg (by omega), if_pos h.1, flatP, flatT, List.map_cons, code_flats ts hts, codeTs_len]
        have hmm : n.many = (ts.length : Int) := by omega
        simp only [er, h.1, nm_nil h.2.1, h.2.2.1, hmm]
      · have hz : manyV n = 1 := by unfold manyV; rw [if_neg (by omega), if_pos h.1]
        cases ts with
        | nil => simp at hm; omega
        | cons u us =>
          have hus : us = [] := List.eq_nil_of_length_eq_zero (by simp at hm; omega)
          subst hus
          rw [okTs] at hts
          have hlab := (hk u (by simp)).2.1 (by omega)
          have hc := code_flat u hts.1
          rw [nm_nil hlab] at hc
          rw [if_neg (by omega), if_neg (by omega), if_neg (by omega), if_neg (by omega), if_pos h.1, flatP, hdT, plainTs, plainTs, flatT, flatTs, flatTs, List.append_nil, List.map_cons, hc]
          simp only [er, h.1, h.2.2.1, h.2.2.2]
      · exact absurd (.inl h.1) h67
      · exact absurd (.inr h.1) h67
theorem code_flats : ∀ ts : List VT, okTs ts → (flatTs (plainTs ts)).map er = flatPs (codeTs ts)
  | [], _ => by rw [plainTs, flatTs, codeTs, flatPs]; rfl
  | t :: ts, hts => by
    rw [okTs] at hts
    rw [plainTs, flatTs, codeTs, flatPs, List.map_append, code_flat t hts.1, code_flats ts hts.2]
end

/-- TWO VALUES ARE SHOWN ALIKE JUST IF THEY ARE THE SAME BUT FOR WHAT THEIR FUNCTIONS ARE. -/
theorem show_one {t u : VT} (ht : okT t) (hu : okT u) (hl : (rootT t).lab = (rootT u).lab) : showT t = showT u ↔ (flatT (plainT t)).map er = (flatT (plainT u)).map er := by
  constructor
  · intro h
    have h1 : showP (codeT t) ++ [] = showP (codeT u) ++ [] := by rw [← code_show t ht, ← code_show u hu, h]
    have h2 := (inj_P _ _ [] [] (code_ok t ht) (code_ok u hu) (.inl rfl) (.inl rfl) h1).1
    rw [code_flat t ht, code_flat u hu, h2, hl]
  · intro h
    have a := showF_L (plain_ok t ht) (f := (flatT (plainT t)).length + (flatT (plainT u)).length) (by omega)
    have b := showF_L (plain_ok u hu) (f := (flatT (plainT t)).length + (flatT (plainT u)).length) (by omega)
    rw [showF_er _ _ _ h, b] at a
    simp only [Option.some.injEq, Prod.mk.injEq] at a
    rw [← plain_show t, ← plain_show u, a.1]
end Sh
end Go.Proofs.YthamcklkmchkiaaDoor
