/- Several texts in one: N8, N9, N10, N11, N12. -/
import Derived.Test.YtjjgnopebokfoaaNX
import Derived.Test.YtjjgnopebokfoaaF15
namespace Go.Proofs.Ytjjgnopebokfoaa
open Go.PL
set_option maxRecDepth 100000
set_option linter.unusedSimpArgs false
set_option linter.unusedVariables false
def wIn (q : Option Sb) (a : Int) (l : List Ln) : Sb := match q with
  | none => ⟨a, [], l⟩
  | some s => ⟨s.at_, s.out, l⟩
def wOut (q : Option Sb) (a : Int) (l : List Ln) : Sb := match q with
  | none => ⟨a, l, []⟩
  | some s => ⟨s.at_, l, s.in_⟩
/-- Substitutions of a script, one being open. -/
def ofP : Option Sb → Int → List Ed → List Sb
  | q, _, [] => q.toList
  | q, a, e :: r => if e.d = 1 then q.toList ++ ofP none (a + e.l.length) r
    else if e.d = 3 then ofP (some (wIn q a e.l)) a r
    else ofP (some (wOut q a e.l)) (a + e.l.length) r
/-- What is open fits what has been seen. -/
def pend (ho hi : Bool) : Option Sb → Prop
  | none => ho = false ∧ hi = false
  | some s => (ho = false → s.out = []) ∧ (hi = false → s.in_ = []) ∧ 0 < s.out.length + s.in_.length
theorem pend_in {ho hi : Bool} {q : Option Sb} {a : Int} {l : List Ln} (h : pend ho hi q) (hl : l ≠ []) : pend ho true (some (wIn q a l)) := by
  have := List.length_pos_iff.2 hl
  cases q with
  | none => exact ⟨fun _ => rfl, (fun h => by cases h), (by show 0 < 0 + l.length; omega)⟩
  | some s => exact ⟨h.1, (fun h => by cases h), (by show 0 < s.out.length + l.length; omega)⟩
theorem pend_out {ho hi : Bool} {q : Option Sb} {a : Int} {l : List Ln} (h : pend ho hi q) (hl : l ≠ []) : pend true hi (some (wOut q a l)) := by
  have := List.length_pos_iff.2 hl
  cases q with
  | none => exact ⟨(fun h => by cases h), (fun _ => rfl), (by show 0 < l.length + 0; omega)⟩
  | some s => exact ⟨(fun h => by cases h), h.2.1, (by show 0 < l.length + s.in_.length; omega)⟩
/-- A step of a form. -/
theorem nf_cons {ho hi : Bool} {e : Ed} {r : List Ed} (h : nf ho hi (e :: r) = true) : e.l ≠ [] ∧ ((e.d = 1 ∧ nf false false r = true) ∨ (e.d = 2 ∧ ho = false ∧ nf true hi r = true) ∨ (e.d = 3 ∧ hi = false ∧ nf ho true r = true)) := by
  simp only [nf, Bool.and_eq_true, decide_eq_true_eq] at h
  obtain ⟨h1, h2⟩ := h
  refine ⟨h1, ?_⟩
  split at h2
  · exact .inl ⟨by assumption, h2⟩
  · split at h2
    · simp only [Bool.and_eq_true, Bool.not_eq_true'] at h2
      exact .inr (.inl ⟨by assumption, h2⟩)
    · simp only [Bool.and_eq_true, Bool.not_eq_true', decide_eq_true_eq] at h2
      exact .inr (.inr ⟨h2.1.1, h2.1.2, h2.2⟩)
theorem ofP_keep {q : Option Sb} {a : Int} {e : Ed} {r : List Ed} (h : e.d = 1) : ofP q a (e :: r) = q.toList ++ ofP none (a + e.l.length) r := by rw [ofP, if_pos h]
theorem ofP_in {q : Option Sb} {a : Int} {e : Ed} {r : List Ed} (h : e.d = 3) : ofP q a (e :: r) = ofP (some (wIn q a e.l)) a r := by rw [ofP, if_neg (by omega), if_pos h]
theorem ofP_out {q : Option Sb} {a : Int} {e : Ed} {r : List Ed} (h : e.d = 2) : ofP q a (e :: r) = ofP (some (wOut q a e.l)) (a + e.l.length) r := by rw [ofP, if_neg (by omega), if_neg (by omega)]
theorem sA_1 {e : Ed} {r : List Ed} (h : e.d = 1) : sA (e :: r) = e.l ++ sA r := by rw [sA, if_pos (by omega)]
theorem sB_1 {e : Ed} {r : List Ed} (h : e.d = 1) : sB (e :: r) = e.l ++ sB r := by rw [sB, if_pos (by omega)]
theorem sA_2 {e : Ed} {r : List Ed} (h : e.d = 2) : sA (e :: r) = e.l ++ sA r := by rw [sA, if_pos (by omega)]
theorem sB_2 {e : Ed} {r : List Ed} (h : e.d = 2) : sB (e :: r) = sB r := by rw [sB, if_neg (by omega), List.nil_append]
theorem sA_3 {e : Ed} {r : List Ed} (h : e.d = 3) : sA (e :: r) = sA r := by rw [sA, if_neg (by omega), List.nil_append]
theorem sB_3 {e : Ed} {r : List Ed} (h : e.d = 3) : sB (e :: r) = e.l ++ sB r := by rw [sB, if_pos (by omega)]
def pos1 (last a : Int) : Option Sb → Prop
  | none => last < a
  | some s => last < s.at_ ∧ endS s = a
/-- They are right. -/
theorem of_ok : ∀ (N : List Ed) (ho hi : Bool) (q : Option Sb) (a last : Int), nf ho hi N = true → pend ho hi q → pos1 last a q → okF (a + (sA N).length) last (ofP q a N) = true
  | [], ho, hi, q, a, last, _, hp, hq => by
    cases q with
    | none => rfl
    | some s =>
      have h1 := hp.2.2
      have h2 := hq.1
      have h3 := hq.2
      unfold endS at h3
      show (stF _ last s && true) = true
      unfold stF
      rw [decide_eq_true h1, decide_eq_true h2, decide_eq_true (by simp [sA]; omega)]
      rfl
  | e :: r, ho, hi, q, a, last, hn, hp, hq => by
    obtain ⟨hl, ⟨hd, hn⟩ | ⟨hd, h0, hn⟩ | ⟨hd, h0, hn⟩⟩ := nf_cons hn
    · rw [ofP_keep hd, sA_1 hd, List.length_append, Int.natCast_add, ← Int.add_assoc]
      have hlp := List.length_pos_iff.2 hl
      cases q with
      | none => exact of_ok r false false none _ last hn ⟨rfl, rfl⟩ (by show last < _; have : last < a := hq; omega)
      | some s =>
        have h1 := hp.2.2
        have h2 := hq.1
        have h3 := hq.2
        unfold endS at h3
        have ih := of_ok r false false none (a + e.l.length) (s.at_ + s.out.length) hn ⟨rfl, rfl⟩ (by show _ < _; omega)
        show (stF _ last s && okF _ _ (ofP none (a + e.l.length) r)) = true
        rw [ih]
        unfold stF
        rw [decide_eq_true h1, decide_eq_true h2, decide_eq_true (by omega)]
        rfl
    · rw [ofP_out hd, sA_2 hd, List.length_append, Int.natCast_add, ← Int.add_assoc]
      refine of_ok r true hi _ _ last hn (pend_out hp hl) ?_
      cases q with
      | none => exact ⟨hq, rfl⟩
      | some s =>
        have h1 := hp.1 h0
        have h3 := hq.2
        unfold endS at h3
        refine ⟨hq.1, ?_⟩
        show s.at_ + (e.l.length : Int) = _
        rw [h1] at h3
        simp at h3
        omega
    · rw [ofP_in hd, sA_3 hd]
      refine of_ok r ho true _ _ last hn (pend_in hp hl) ?_
      cases q with
      | none => exact ⟨hq, by unfold endS wIn; simp⟩
      | some s => exact ⟨hq.1, hq.2⟩
def segP (A : List Ln) : Option Sb → Prop
  | none => True
  | some s => 0 ≤ s.at_ ∧ s.out = segL A s.at_ (endS s)
theorem seg_new {A0 l X : List Ln} {a : Int} (ha : a = A0.length) : segL (A0 ++ (l ++ X)) a (a + l.length) = l := by
  subst ha
  unfold segL
  rw [show ((A0.length : Int) + l.length).toNat = A0.length + l.length by omega, Int.toNat_natCast, ← List.append_assoc, List.take_append_of_le_length (by simp), List.take_of_length_le (by simp), List.drop_left]
/-- What they take out is there. -/
theorem of_fits (A : List Ln) : ∀ (N : List Ed) (ho hi : Bool) (q : Option Sb) (A0 : List Ln) (a : Int), nf ho hi N = true → pend ho hi q → a = A0.length → A = A0 ++ sA N → (∀ s, q = some s → endS s = a) → segP A q → fitsL A (ofP q a N) = true
  | [], ho, hi, q, A0, a, _, _, _, _, _, hs => by
    cases q with
    | none => rfl
    | some s =>
      show (decide (s.out = _) && true) = true
      rw [decide_eq_true hs.2]; rfl
  | e :: r, ho, hi, q, A0, a, hn, hp, ha, hA, hq, hs => by
    obtain ⟨hl, ⟨hd, hn⟩ | ⟨hd, h0, hn⟩ | ⟨hd, h0, hn⟩⟩ := nf_cons hn
    · rw [sA_1 hd] at hA
      have ih := of_fits A r false false none (A0 ++ e.l) (a + e.l.length) hn ⟨rfl, rfl⟩ (by rw [List.length_append]; omega) (by rw [hA, List.append_assoc]) (fun s h => by cases h) trivial
      rw [ofP_keep hd]
      cases q with
      | none => exact ih
      | some s =>
        show (decide (s.out = _) && fitsL A (ofP none (a + e.l.length) r)) = true
        rw [ih, decide_eq_true hs.2]; rfl
    · rw [sA_2 hd] at hA
      rw [ofP_out hd]
      have hsg : segL A a (a + e.l.length) = e.l := by rw [hA]; exact seg_new ha
      refine of_fits A r true hi _ (A0 ++ e.l) _ hn (pend_out hp hl) (by rw [List.length_append]; omega) (by rw [hA, List.append_assoc]) ?_ ?_
      · intro s h
        injection h with h
        subst h
        cases q with
        | none => rfl
        | some t =>
          have h3 := hq t rfl
          unfold endS at h3 ⊢
          rw [hp.1 h0] at h3
          show t.at_ + (e.l.length : Int) = _
          simp at h3
          omega
      · cases q with
        | none =>
          refine ⟨by show 0 ≤ a; omega, ?_⟩
          show e.l = segL A a (a + e.l.length)
          exact hsg.symm
        | some t =>
          have h3 := hq t rfl
          unfold endS at h3
          rw [hp.1 h0] at h3
          simp at h3
          refine ⟨by show 0 ≤ t.at_; omega, ?_⟩
          show e.l = segL A t.at_ (t.at_ + e.l.length)
          rw [show t.at_ = a by omega]
          exact hsg.symm
    · rw [sA_3 hd] at hA
      rw [ofP_in hd]
      refine of_fits A r ho true _ A0 a hn (pend_in hp hl) ha hA ?_ ?_
      · intro s h
        injection h with h
        subst h
        cases q with
        | none => unfold endS wIn; simp
        | some t => exact hq t rfl
      · cases q with
        | none =>
          refine ⟨by show 0 ≤ a; omega, ?_⟩
          show [] = segL A a (a + 0)
          unfold segL
          rw [Int.add_zero, List.drop_take]
          simp
        | some t => exact hs
theorem segL_nil (A : List Ln) (a : Int) : segL A a a = [] := by
  unfold segL
  rw [List.drop_take]
  simp
theorem segL_join {A : List Ln} {t a b : Int} (h0 : 0 ≤ t) (h1 : t ≤ a) (h2 : a ≤ b) : segL A t a ++ segL A a b = segL A t b := by
  unfold segL
  obtain ⟨t, rfl⟩ := Int.eq_ofNat_of_zero_le h0
  obtain ⟨a, rfl⟩ := Int.eq_ofNat_of_zero_le (by omega : 0 ≤ a)
  obtain ⟨b, rfl⟩ := Int.eq_ofNat_of_zero_le (by omega : 0 ≤ b)
  simp only [Int.ofNat_eq_natCast, Int.toNat_natCast]
  rw [List.drop_take, List.drop_take, List.drop_take]
  have h : (A.drop t).take (b - t) = (A.drop t).take (a - t) ++ ((A.drop t).drop (a - t)).take (b - t - (a - t)) := by
    rw [← List.take_append_drop (a - t) ((A.drop t).take (b - t)), List.take_take, List.drop_take, Nat.min_eq_left (by omega)]
  rw [h, List.drop_drop, show t + (a - t) = a by omega, show b - t - (a - t) = b - a by omega]
/-- They make the new side. -/
theorem of_tail (A : List Ln) : ∀ (N : List Ed) (ho hi : Bool) (q : Option Sb) (A0 : List Ln) (a t : Int), nf ho hi N = true → pend ho hi q → a = A0.length → A = A0 ++ sA N → 0 ≤ t → (∀ s, q = some s → endS s = a ∧ t ≤ s.at_) → t ≤ a →
    tailA A t (ofP q a N) = (match q with | none => segL A t a | some s => segL A t s.at_ ++ s.in_) ++ sB N
  | [], ho, hi, q, A0, a, t, _, _, ha, hA, h0, hq, hta => by
    have hA' : A = A0 := by rw [hA]; simp [sA]
    subst hA'
    have hd : A.drop a.toNat = [] := List.drop_eq_nil_of_le (by omega)
    have hg : A.drop t.toNat = segL A t a := by
      unfold segL
      rw [List.take_of_length_le (by omega)]
    cases q with
    | none =>
      show A.drop t.toNat = segL A t a ++ []
      rw [hg, List.append_nil]
    | some s =>
      show segL A t s.at_ ++ s.in_ ++ A.drop (endS s).toNat = _
      rw [(hq s rfl).1, hd]
      rfl
  | e :: r, ho, hi, q, A0, a, t, hn, hp, ha, hA, h0, hq, hta => by
    obtain ⟨hl, ⟨hd, hn⟩ | ⟨hd, hh, hn⟩ | ⟨hd, hh, hn⟩⟩ := nf_cons hn
    · rw [sA_1 hd] at hA
      rw [ofP_keep hd, sB_1 hd]
      have hsg : segL A a (a + e.l.length) = e.l := by rw [hA]; exact seg_new ha
      have ih := fun (t : Int) (h1 : 0 ≤ t) (h2 : t ≤ a + e.l.length) => of_tail A r false false none (A0 ++ e.l) (a + e.l.length) t hn ⟨rfl, rfl⟩ (by rw [List.length_append]; omega) (by rw [hA, List.append_assoc]) h1 (fun s h => by cases h) h2
      simp only at ih
      cases q with
      | none =>
        show tailA A t (ofP none _ r) = segL A t a ++ _
        rw [ih t h0 (by omega), ← segL_join h0 hta (by omega : a ≤ a + e.l.length), hsg, List.append_assoc]
      | some s =>
        obtain ⟨h3, h4⟩ := hq s rfl
        show segL A t s.at_ ++ s.in_ ++ tailA A (endS s) (ofP none _ r) = segL A t s.at_ ++ s.in_ ++ _
        rw [h3, ih a (by omega) (by omega), hsg]
    · rw [sA_2 hd] at hA
      rw [ofP_out hd, sB_2 hd]
      rw [of_tail A r true hi _ (A0 ++ e.l) (a + e.l.length) t hn (pend_out hp hl) (by rw [List.length_append]; omega) (by rw [hA, List.append_assoc]) h0 ?_ (by omega)]
      · cases q with
        | none => show segL A t a ++ [] ++ _ = segL A t a ++ _; rw [List.append_nil]
        | some s => rfl
      · intro s h
        injection h with h
        subst h
        cases q with
        | none => exact ⟨rfl, hta⟩
        | some u =>
          obtain ⟨h3, h4⟩ := hq u rfl
          refine ⟨?_, h4⟩
          unfold endS at h3 ⊢
          rw [hp.1 hh] at h3
          show u.at_ + (e.l.length : Int) = _
          simp at h3
          omega
    · rw [sA_3 hd] at hA
      rw [ofP_in hd, sB_3 hd]
      rw [of_tail A r ho true _ A0 a t hn (pend_in hp hl) ha hA h0 ?_ hta]
      · cases q with
        | none => show segL A t a ++ e.l ++ _ = segL A t a ++ _; rw [List.append_assoc]
        | some s =>
          have h5 := hp.2.1 hh
          show segL A t s.at_ ++ e.l ++ _ = segL A t s.at_ ++ s.in_ ++ _
          rw [h5, List.append_nil, List.append_assoc]
      · intro s h
        injection h with h
        subst h
        cases q with
        | none => exact ⟨by unfold endS wIn; simp, hta⟩
        | some u => exact hq u rfl
def pO : Option Sb → Nat
  | none => 0
  | some s => s.out.length
def pI : Option Sb → Nat
  | none => 0
  | some s => s.in_.length
/-- How many lines they take out and put in. -/
theorem of_sums : ∀ (N : List Ed) (ho hi : Bool) (q : Option Sb) (a : Int), nf ho hi N = true → pend ho hi q → sumO (ofP q a N) ≤ pO q + (sA N).length ∧ sumI (ofP q a N) ≤ pI q + (sB N).length ∧ sumO (ofP q a N) + sumI (ofP q a N) ≤ pO q + pI q + totL N ∧ growL (ofP q a N) = (pI q : Int) - pO q + ((sB N).length - (sA N).length) ∧ (ofP q a N).length ≤ sumO (ofP q a N) + sumI (ofP q a N)
  | [], ho, hi, q, a, _, hp => by
    cases q with
    | none => simp [ofP, sumO, sumI, growL, pO, pI, sA, sB, totL]
    | some s =>
      have := hp.2.2
      simp [ofP, sumO, sumI, growL, grow1, pO, pI, sA, sB, totL]
      omega
  | e :: r, ho, hi, q, a, hn, hp => by
    obtain ⟨hl, ⟨hd, hn⟩ | ⟨hd, hh, hn⟩ | ⟨hd, hh, hn⟩⟩ := nf_cons hn
    · have ih := of_sums r false false none (a + e.l.length) hn ⟨rfl, rfl⟩
      rw [ofP_keep hd, sA_1 hd, sB_1 hd, sumO_append, sumI_append, growL_append, List.length_append, List.length_append, List.length_append, totL]
      cases q with
      | none =>
        simp only [Option.toList, sumO, sumI, growL, pO, pI, List.length_nil] at ih ⊢
        omega
      | some s =>
        have := hp.2.2
        simp only [Option.toList, sumO, sumI, growL, grow1, pO, pI, List.length_nil, List.length_cons] at ih ⊢
        omega
    · have ih := of_sums r true hi (some (wOut q a e.l)) (a + e.l.length) hn (pend_out hp hl)
      rw [ofP_out hd, sA_2 hd, sB_2 hd, List.length_append, totL]
      cases q with
      | none =>
        simp only [wOut, wIn, pO, pI, List.length_nil] at ih ⊢
        omega
      | some s =>
        have h5 := hp.1 hh
        simp only [wOut, wIn, pO, pI, h5, List.length_nil] at ih ⊢
        omega
    · have ih := of_sums r ho true (some (wIn q a e.l)) a hn (pend_in hp hl)
      rw [ofP_in hd, sA_3 hd, sB_3 hd, List.length_append, totL]
      cases q with
      | none =>
        simp only [wOut, wIn, pO, pI, List.length_nil] at ih ⊢
        omega
      | some s =>
        have h5 := hp.2.1 hh
        simp only [wOut, wIn, pO, pI, h5, List.length_nil] at ih ⊢
        omega
end Go.Proofs.Ytjjgnopebokfoaa
namespace Go.Proofs.Ytjjgnopebokfoaa
open Go.PL
set_option maxRecDepth 100000
set_option linter.unusedSimpArgs false
set_option linter.unusedVariables false
def swE (e : Ed) : Ed := ⟨if e.d = 2 then 3 else if e.d = 3 then 2 else e.d, e.l⟩
def sw (N : List Ed) : List Ed := N.map swE
theorem sw_cons (e : Ed) (r : List Ed) : sw (e :: r) = swE e :: sw r := rfl
theorem swE_1 {e : Ed} (h : e.d = 1) : swE e = ⟨1, e.l⟩ := by unfold swE; rw [if_neg (by omega), if_neg (by omega), h]
theorem swE_2 {e : Ed} (h : e.d = 2) : swE e = ⟨3, e.l⟩ := by unfold swE; rw [if_pos h]
theorem swE_3 {e : Ed} (h : e.d = 3) : swE e = ⟨2, e.l⟩ := by unfold swE; rw [if_neg (by omega), if_pos h]
theorem nf_sw : ∀ (N : List Ed) (ho hi : Bool), nf ho hi N = true → nf hi ho (sw N) = true
  | [], _, _, _ => rfl
  | e :: r, ho, hi, h => by
    obtain ⟨hl, ⟨hd, hn⟩ | ⟨hd, hh, hn⟩ | ⟨hd, hh, hn⟩⟩ := nf_cons h
    · have ih := nf_sw r _ _ hn
      rw [sw_cons, swE_1 hd]
      simp [nf, hl, ih]
    · have ih := nf_sw r _ _ hn
      rw [sw_cons, swE_2 hd]
      simp [nf, hl, ih, hh]
    · have ih := nf_sw r _ _ hn
      rw [sw_cons, swE_3 hd]
      simp [nf, hl, ih, hh]
theorem sides_sw : ∀ (N : List Ed) (ho hi : Bool), nf ho hi N = true → sA (sw N) = sB N ∧ sB (sw N) = sA N ∧ totL (sw N) = totL N
  | [], _, _, _ => ⟨rfl, rfl, rfl⟩
  | e :: r, ho, hi, h => by
    obtain ⟨hl, ⟨hd, hn⟩ | ⟨hd, hh, hn⟩ | ⟨hd, hh, hn⟩⟩ := nf_cons h
    · obtain ⟨h1, h2, h3⟩ := sides_sw r _ _ hn
      rw [sw_cons, swE_1 hd, sA_1 (e := ⟨1, e.l⟩) rfl, sB_1 (e := ⟨1, e.l⟩) rfl, sA_1 hd, sB_1 hd, totL, totL, h1, h2, h3]
      exact ⟨rfl, rfl, rfl⟩
    · obtain ⟨h1, h2, h3⟩ := sides_sw r _ _ hn
      rw [sw_cons, swE_2 hd, sA_3 (e := ⟨3, e.l⟩) rfl, sB_3 (e := ⟨3, e.l⟩) rfl, sA_2 hd, sB_2 hd, totL, totL, h1, h2, h3]
      exact ⟨rfl, rfl, rfl⟩
    · obtain ⟨h1, h2, h3⟩ := sides_sw r _ _ hn
      rw [sw_cons, swE_3 hd, sA_2 (e := ⟨2, e.l⟩) rfl, sB_2 (e := ⟨2, e.l⟩) rfl, sA_3 hd, sB_3 hd, totL, totL, h1, h2, h3]
      exact ⟨rfl, rfl, rfl⟩
def invS (g : Int) (s : Sb) : Sb := ⟨s.at_ + g, s.in_, s.out⟩
def invA (g : Int) : List Sb → List Sb
  | [] => []
  | s :: l => invS g s :: invA (g + grow1 s) l
theorem invA_get : ∀ (l : List Sb) (g : Int) (i : Nat), (invA g l)[i]? = (l[i]?).map fun s => ⟨s.at_ + (g + growL (l.take i)), s.in_, s.out⟩
  | [], g, i => by simp [invA]
  | s :: l, g, 0 => by simp [invA, invS, growL]
  | s :: l, g, i + 1 => by
    simp only [invA, List.getElem?_cons_succ, invA_get l, List.take_succ_cons, growL, Int.add_assoc]
theorem invL_eq (l : List Sb) : invL l = invA 0 l := by
  apply List.ext_getElem?
  intro i
  rw [invA_get]
  unfold invL invN
  by_cases h : i < l.length
  · rw [List.getElem?_map, List.getElem?_range h, List.getElem?_eq_getElem h]
    simp only [Option.map_some, Option.some.injEq]
    have e : l.getD i default = l[i] := by simp [List.getD, h]
    rw [e, Int.zero_add]
  · rw [List.getElem?_eq_none (by simp; omega), List.getElem?_eq_none (by omega)]
    rfl
def qgrow : Option Sb → Int
  | none => 0
  | some s => grow1 s
theorem inv_of : ∀ (N : List Ed) (ho hi : Bool) (q : Option Sb) (a g : Int), nf ho hi N = true → pend ho hi q → invA g (ofP q a N) = ofP (q.map (invS g)) (a + g + qgrow q) (sw N)
  | [], ho, hi, q, a, g, _, _ => by cases q <;> rfl
  | e :: r, ho, hi, q, a, g, hn, hp => by
    obtain ⟨hl, ⟨hd, hn⟩ | ⟨hd, hh, hn⟩ | ⟨hd, hh, hn⟩⟩ := nf_cons hn
    · have ih := fun g => inv_of r false false none (a + e.l.length) g hn ⟨rfl, rfl⟩
      simp only [Option.map_none, qgrow] at ih
      rw [ofP_keep hd, sw_cons, swE_1 hd, ofP_keep (e := ⟨1, e.l⟩) rfl]
      cases q with
      | none =>
        show invA g (ofP none _ r) = ofP none _ (sw r)
        rw [ih]
        congr 1
        show _ = a + g + 0 + (e.l.length : Int)
        omega
      | some s =>
        show invS g s :: invA (g + grow1 s) (ofP none _ r) = invS g s :: ofP none _ (sw r)
        rw [ih]
        congr 2
        show _ = a + g + grow1 s + (e.l.length : Int)
        omega
    · have ih := inv_of r true hi (some (wOut q a e.l)) (a + e.l.length) g hn (pend_out hp hl)
      rw [ofP_out hd, sw_cons, swE_2 hd, ofP_in (e := ⟨3, e.l⟩) rfl, ih]
      cases q with
      | none =>
        show ofP (some ⟨a + g, [], e.l⟩) (a + e.l.length + g + (((([] : List Ln).length : Nat) : Int) - e.l.length)) (sw r) = ofP (some ⟨a + g + 0, [], e.l⟩) (a + g + 0) (sw r)
        rw [Int.add_zero]
        congr 1
        simp
        omega
      | some s =>
        have h5 := hp.1 hh
        show ofP (some ⟨s.at_ + g, s.in_, e.l⟩) (a + e.l.length + g + ((s.in_.length : Int) - e.l.length)) (sw r) = ofP (some ⟨s.at_ + g, s.in_, e.l⟩) (a + g + ((s.in_.length : Int) - s.out.length)) (sw r)
        rw [h5]
        congr 1
        simp
        omega
    · have ih := inv_of r ho true (some (wIn q a e.l)) a g hn (pend_in hp hl)
      rw [ofP_in hd, sw_cons, swE_3 hd, ofP_out (e := ⟨2, e.l⟩) rfl, ih]
      cases q with
      | none =>
        show ofP (some ⟨a + g, e.l, []⟩) (a + g + ((e.l.length : Int) - (([] : List Ln).length : Nat))) (sw r) = ofP (some ⟨a + g + 0, e.l, []⟩) (a + g + 0 + e.l.length) (sw r)
        rw [Int.add_zero]
        congr 1
      | some s =>
        have h5 := hp.2.1 hh
        show ofP (some ⟨s.at_ + g, e.l, s.out⟩) (a + g + ((e.l.length : Int) - s.out.length)) (sw r) = ofP (some ⟨s.at_ + g, e.l, s.out⟩) (a + g + ((s.in_.length : Int) - s.out.length) + e.l.length) (sw r)
        rw [h5]
        congr 1
        simp
        omega
/-! ### What Apply makes of them -/
theorem okF_mem {n : Int} : ∀ {last : Int} {l : List Sb}, okF n last l = true → ∀ s ∈ l, last < s.at_ ∧ endS s ≤ n
  | last, [], _, s, h => by cases h
  | last, t :: l, h, s, hs => by
    obtain ⟨h1, h2, h3, h4⟩ := okF_at h
    rcases List.mem_cons.1 hs with rfl | hs
    · exact ⟨h1, h3⟩
    · have := okF_mem h4 s hs
      exact ⟨by omega, this.2⟩
theorem sumI_mem : ∀ {l : List Sb} {s : Sb}, s ∈ l → s.in_.length ≤ sumI l ∧ s.out.length ≤ sumO l
  | [], s, h => by cases h
  | t :: l, s, h => by
    rcases List.mem_cons.1 h with rfl | h
    · simp only [sumI, sumO]; omega
    · have := sumI_mem h
      simp only [sumI, sumO]; omega
theorem of_smP {N : List Ed} (hn : nf false false N = true) (ht : totL N ≤ 800) : smP (ofP none 0 N) := by
  have h1 := of_ok N false false none 0 (-1) hn ⟨rfl, rfl⟩ (by show (-1 : Int) < 0; omega)
  obtain ⟨h2, h3, h4, h5, h6⟩ := of_sums N false false none 0 hn ⟨rfl, rfl⟩
  simp only [pO, pI] at h2 h3 h4
  have ha := sA_len N
  have hb := sB_len N
  refine ⟨by omega, fun s hs => ?_⟩
  obtain ⟨g1, g2⟩ := okF_mem h1 s hs
  obtain ⟨g3, g4⟩ := sumI_mem hs
  unfold endS at g2
  unfold smS
  omega
theorem of_apply {N : List Ed} (hn : nf false false N = true) (ha : (sA N).length ≤ 400) (hb : (sB N).length ≤ 400) (hl : (ofP none 0 N).length ≤ 400) : apE (ofP none 0 N) (sA N) = 0 ∧ apR (ofP none 0 N) (sA N) = sB N := by
  have h1 := of_ok N false false none 0 (-1) hn ⟨rfl, rfl⟩ (by show (-1 : Int) < 0; omega)
  obtain ⟨h2, h3, h4, h5, h6⟩ := of_sums N false false none 0 hn ⟨rfl, rfl⟩
  simp only [pO, pI] at h2 h3 h4
  have h7 := of_fits (sA N) N false false none [] 0 hn ⟨rfl, rfl⟩ rfl rfl (fun s h => by cases h) trivial
  have h8 := of_tail (sA N) N false false none [] 0 0 hn ⟨rfl, rfl⟩ rfl rfl (Int.le_refl _) (fun s h => by cases h) (Int.le_refl _)
  simp only [segL_nil, List.nil_append] at h8
  rw [Int.zero_add] at h1
  have hc : chk (ofP none 0 N) (sA N).length = 0 := by
    unfold chk
    rw [if_neg (by omega), if_neg (by omega), if_pos h1]
  have he : apE (ofP none 0 N) (sA N) = 0 := by
    unfold apE
    rw [hc, if_neg (by omega), if_pos h7]
  refine ⟨he, ?_⟩
  unfold apR
  rw [he, if_neg (by omega), h8]
/-! ### Line by line -/
structure FS where
  o : List Sb
  a : Int
  f : Bool
def addIn (o : List Sb) (l : List Ln) : List Sb := match o.getLast? with
  | some s => o.dropLast ++ [⟨s.at_, s.out, s.in_ ++ l⟩]
  | none => o
def addOut (o : List Sb) (l : List Ln) : List Sb := match o.getLast? with
  | some s => o.dropLast ++ [⟨s.at_, s.out ++ l, s.in_⟩]
  | none => o
def setIn (o : List Sb) (l : List Ln) : List Sb := match o.getLast? with
  | some s => o.dropLast ++ [⟨s.at_, s.out, l⟩]
  | none => o
def setOut (o : List Sb) (l : List Ln) : List Sb := match o.getLast? with
  | some s => o.dropLast ++ [⟨s.at_, l, s.in_⟩]
  | none => o
theorem addIn_last (o : List Sb) (s : Sb) (l : List Ln) : addIn (o ++ [s]) l = o ++ [⟨s.at_, s.out, s.in_ ++ l⟩] := by unfold addIn; rw [List.getLast?_concat, List.dropLast_concat]
theorem addOut_last (o : List Sb) (s : Sb) (l : List Ln) : addOut (o ++ [s]) l = o ++ [⟨s.at_, s.out ++ l, s.in_⟩] := by unfold addOut; rw [List.getLast?_concat, List.dropLast_concat]
theorem setIn_last (o : List Sb) (s : Sb) (l : List Ln) : setIn (o ++ [s]) l = o ++ [⟨s.at_, s.out, l⟩] := by unfold setIn; rw [List.getLast?_concat, List.dropLast_concat]
theorem setOut_last (o : List Sb) (s : Sb) (l : List Ln) : setOut (o ++ [s]) l = o ++ [⟨s.at_, l, s.in_⟩] := by unfold setOut; rw [List.getLast?_concat, List.dropLast_concat]
def opn (q : FS) : List Sb := if q.f then q.o ++ [⟨q.a, [], []⟩] else q.o
def stO (q : FS) (e : Ed) : FS :=
  if e.d = 1 then ⟨q.o, q.a + e.l.length, true⟩ else if e.d = 3 then ⟨setIn (opn q) e.l, q.a, false⟩ else ⟨setOut (opn q) e.l, q.a + e.l.length, false⟩
def st1 (q : FS) (e : Ed) : FS :=
  if e.d = 1 then ⟨q.o, q.a + e.l.length, true⟩ else if e.d = 3 then ⟨addIn (opn q) e.l, q.a, false⟩ else ⟨addOut (opn q) e.l, q.a + e.l.length, false⟩
theorem opn_q (o : List Sb) (q : Option Sb) (a : Int) : ∃ s, opn ⟨o ++ q.toList, a, q.isNone⟩ = o ++ [s] ∧ s = q.getD ⟨a, [], []⟩ := by
  cases q with
  | none => exact ⟨⟨a, [], []⟩, by simp [opn], rfl⟩
  | some s => exact ⟨s, by simp [opn], rfl⟩
/-- The substitutions of a script, an edit at a time. -/
theorem stO_of : ∀ (N : List Ed) (o : List Sb) (q : Option Sb) (a : Int), (∀ e ∈ N, e.d = 1 ∨ e.d = 2 ∨ e.d = 3) → (N.foldl stO ⟨o ++ q.toList, a, q.isNone⟩).o = o ++ ofP q a N
  | [], o, q, a, _ => rfl
  | e :: r, o, q, a, h => by
    have hr := fun x hx => h x (List.mem_cons_of_mem _ hx)
    rw [List.foldl_cons]
    obtain ⟨s, hs1, hs2⟩ := opn_q o q a
    rcases h e (List.mem_cons_self ..) with hd | hd | hd
    · have e1 : stO ⟨o ++ q.toList, a, q.isNone⟩ e = ⟨(o ++ q.toList) ++ (none : Option Sb).toList, a + e.l.length, (none : Option Sb).isNone⟩ := by
        unfold stO
        rw [if_pos hd]
        simp
      rw [e1, stO_of r _ none _ hr, ofP_keep hd, List.append_assoc]
    · have e1 : stO ⟨o ++ q.toList, a, q.isNone⟩ e = ⟨o ++ (some (wOut q a e.l)).toList, a + e.l.length, (some (wOut q a e.l)).isNone⟩ := by
        unfold stO
        rw [if_neg (by omega), if_neg (by omega), hs1, setOut_last, hs2]
        cases q <;> rfl
      rw [e1, stO_of r _ _ _ hr, ofP_out hd]
    · have e1 : stO ⟨o ++ q.toList, a, q.isNone⟩ e = ⟨o ++ (some (wIn q a e.l)).toList, a, (some (wIn q a e.l)).isNone⟩ := by
        unfold stO
        rw [if_neg (by omega), if_pos hd, hs1, setIn_last, hs2]
        cases q <;> rfl
      rw [e1, stO_of r _ _ _ hr, ofP_in hd]
def sg1 (e : Ed) : List Ed := e.l.map fun x => ⟨e.d, [x]⟩
def sgl (N : List Ed) : List Ed := N.flatMap sg1
theorem run1 (o : List Sb) : ∀ (l : List Ln) (a : Int) (f : Bool), l ≠ [] → (l.map fun x => (⟨1, [x]⟩ : Ed)).foldl st1 ⟨o, a, f⟩ = ⟨o, a + l.length, true⟩
  | [], _, _, h => absurd rfl h
  | [x], a, f, _ => by simp [st1]
  | x :: y :: l, a, f, _ => by
    rw [List.map_cons, List.foldl_cons, show st1 ⟨o, a, f⟩ ⟨1, [x]⟩ = ⟨o, a + 1, true⟩ from rfl, run1 o (y :: l) (a + 1) true (by simp)]
    simp
    omega
theorem run2 (o : List Sb) : ∀ (l : List Ln) (s : Sb) (a : Int), (l.map fun x => (⟨2, [x]⟩ : Ed)).foldl st1 ⟨o ++ [s], a, false⟩ = ⟨o ++ [⟨s.at_, s.out ++ l, s.in_⟩], a + l.length, false⟩
  | [], s, a => by simp
  | x :: l, s, a => by
    have e : st1 ⟨o ++ [s], a, false⟩ ⟨2, [x]⟩ = ⟨o ++ [⟨s.at_, s.out ++ [x], s.in_⟩], a + 1, false⟩ := by
      show (⟨addOut (o ++ [s]) [x], a + 1, false⟩ : FS) = _
      rw [addOut_last]
    rw [List.map_cons, List.foldl_cons, e, run2 o l]
    simp
    omega
theorem run3 (o : List Sb) : ∀ (l : List Ln) (s : Sb) (a : Int), (l.map fun x => (⟨3, [x]⟩ : Ed)).foldl st1 ⟨o ++ [s], a, false⟩ = ⟨o ++ [⟨s.at_, s.out, s.in_ ++ l⟩], a, false⟩
  | [], s, a => by simp
  | x :: l, s, a => by
    have e : st1 ⟨o ++ [s], a, false⟩ ⟨3, [x]⟩ = ⟨o ++ [⟨s.at_, s.out, s.in_ ++ [x]⟩], a, false⟩ := by
      show (⟨addIn (o ++ [s]) [x], a, false⟩ : FS) = _
      rw [addIn_last]
    rw [List.map_cons, List.foldl_cons, e, run3 o l]
    simp
theorem first2 (o : List Sb) (q : Option Sb) (a : Int) {l : List Ln} (hl : l ≠ []) (hq : ∀ s, q = some s → s.out = []) : (l.map fun x => (⟨2, [x]⟩ : Ed)).foldl st1 ⟨o ++ q.toList, a, q.isNone⟩ = ⟨o ++ [wOut q a l], a + l.length, false⟩ := by
  cases q with
  | some s =>
    show (l.map _).foldl st1 ⟨o ++ [s], a, false⟩ = _
    rw [run2, hq s rfl]
    rfl
  | none =>
    cases l with
    | nil => exact absurd rfl hl
    | cons x l =>
      have e : st1 ⟨o ++ (none : Option Sb).toList, a, (none : Option Sb).isNone⟩ ⟨2, [x]⟩ = ⟨o ++ [⟨a, [x], []⟩], a + 1, false⟩ := by
        show (⟨addOut ((o ++ []) ++ [⟨a, [], []⟩]) [x], a + 1, false⟩ : FS) = _
        rw [List.append_nil, addOut_last]
        rfl
      rw [List.map_cons, List.foldl_cons, e, run2]
      simp [wOut]
      omega
theorem first3 (o : List Sb) (q : Option Sb) (a : Int) {l : List Ln} (hl : l ≠ []) (hq : ∀ s, q = some s → s.in_ = []) : (l.map fun x => (⟨3, [x]⟩ : Ed)).foldl st1 ⟨o ++ q.toList, a, q.isNone⟩ = ⟨o ++ [wIn q a l], a, false⟩ := by
  cases q with
  | some s =>
    show (l.map _).foldl st1 ⟨o ++ [s], a, false⟩ = _
    rw [run3, hq s rfl]
    rfl
  | none =>
    cases l with
    | nil => exact absurd rfl hl
    | cons x l =>
      have e : st1 ⟨o ++ (none : Option Sb).toList, a, (none : Option Sb).isNone⟩ ⟨3, [x]⟩ = ⟨o ++ [⟨a, [], [x]⟩], a, false⟩ := by
        show (⟨addIn ((o ++ []) ++ [⟨a, [], []⟩]) [x], a, false⟩ : FS) = _
        rw [List.append_nil, addIn_last]
        rfl
      rw [List.map_cons, List.foldl_cons, e, run3]
      simp [wIn]
/-- The same, a line at a time. -/
theorem st1_of : ∀ (N : List Ed) (ho hi : Bool) (o : List Sb) (q : Option Sb) (a : Int), nf ho hi N = true → pend ho hi q → ((sgl N).foldl st1 ⟨o ++ q.toList, a, q.isNone⟩).o = o ++ ofP q a N
  | [], _, _, o, q, a, _, _ => rfl
  | e :: r, ho, hi, o, q, a, hn, hp => by
    have hsg : sgl (e :: r) = sg1 e ++ sgl r := rfl
    rw [hsg, List.foldl_append]
    obtain ⟨hl, ⟨hd, hn⟩ | ⟨hd, hh, hn⟩ | ⟨hd, hh, hn⟩⟩ := nf_cons hn
    · have e1 : (sg1 e).foldl st1 ⟨o ++ q.toList, a, q.isNone⟩ = ⟨(o ++ q.toList) ++ (none : Option Sb).toList, a + e.l.length, (none : Option Sb).isNone⟩ := by
        unfold sg1
        rw [hd, run1 _ _ _ _ hl]
        simp
      rw [e1, st1_of r _ _ _ none _ hn ⟨rfl, rfl⟩, ofP_keep hd, List.append_assoc]
    · have e1 : (sg1 e).foldl st1 ⟨o ++ q.toList, a, q.isNone⟩ = ⟨o ++ (some (wOut q a e.l)).toList, a + e.l.length, (some (wOut q a e.l)).isNone⟩ := by
        unfold sg1
        rw [hd, first2 _ _ _ hl (fun s h => by subst h; exact hp.1 hh)]
        rfl
      rw [e1, st1_of r _ _ _ _ _ hn (pend_out hp hl), ofP_out hd]
    · have e1 : (sg1 e).foldl st1 ⟨o ++ q.toList, a, q.isNone⟩ = ⟨o ++ (some (wIn q a e.l)).toList, a, (some (wIn q a e.l)).isNone⟩ := by
        unfold sg1
        rw [hd, first3 _ _ _ hl (fun s h => by subst h; exact hp.2.1 hh)]
        rfl
      rw [e1, st1_of r _ _ _ _ _ hn (pend_in hp hl), ofP_in hd]
end Go.Proofs.Ytjjgnopebokfoaa
namespace Go.Proofs.Ytjjgnopebokfoaa
open Go.PL
set_option maxRecDepth 100000
set_option linter.unusedSimpArgs false
set_option linter.unusedVariables false
def sdF (d : Int) : List Ed → List Ln
  | [] => []
  | e :: s => (if e.d ≠ d then e.l else []) ++ sdF d s
theorem sdF_A (s : List Ed) : sdF 3 s = sA s := by
  induction s with
  | nil => rfl
  | cons e s ih => simp only [sdF, sA, ih]
theorem sdF_B (s : List Ed) : sdF 2 s = sB s := by
  induction s with
  | nil => rfl
  | cons e s ih => simp only [sdF, sB, ih]
theorem sdF_append (d : Int) (s r : List Ed) : sdF d (s ++ r) = sdF d s ++ sdF d r := by
  induction s with
  | nil => rfl
  | cons e s ih => simp only [List.cons_append, sdF, ih, List.append_assoc]
theorem sdF_succ (d : Int) {s : List Ed} {k : Nat} (h : k < s.length) : sdF d (s.take (k + 1)) = sdF d (s.take k) ++ (if (s.getD k default).d ≠ d then (s.getD k default).l else []) := by
  rw [take_succ_getD h, sdF_append]
  simp [sdF]
theorem sdF_len (d : Int) (s : List Ed) : (sdF d s).length ≤ totL s := by
  induction s with
  | nil => simp [sdF, totL]
  | cons e s ih =>
    simp only [sdF, totL, List.length_append]
    split <;> simp <;> omega
theorem ref08_side (s : List Ed) (d : Int) (hs : s.length ≤ 100000) (ht : totL s ≤ 1000000) : PC Try.prog 47 [iE s, iI d] [] 0 9 (fun t obs => t = iL (sdF d s) ∧ obs = []) := by
  refine PC.body [4] Try.func47 rfl (by rfl) (Nat.le_of_ble_eq_true (by rfl)) rfl ?_; simp only [enumA]
  ((repeat refine PWp.seq ?_); refine PWp.region TT (by rfl) (fun K hK => ?_); simp only [push_cast, seval, Nat.reduceEqDiff, Nat.reduceLeDiff, reduceCtorEq]; (repeat refine sk ?_); refine hK _ ?_; clear hK K)
  ((repeat refine PWp.seq ?_); refine PWp.region TT (by rfl) (fun K hK => ?_); simp only [push_cast, seval, Nat.reduceEqDiff, Nat.reduceLeDiff, reduceCtorEq]; (repeat refine sk ?_); refine hK _ ?_; clear hK K)
  ((repeat refine PWp.seq ?_); refine PWp.region TT (by rfl) (fun K hK => ?_); simp only [push_cast, seval, Nat.reduceEqDiff, Nat.reduceLeDiff, reduceCtorEq]; (repeat refine sk ?_); refine hK _ ?_; clear hK K)
  refine PWp.gh (st' := ⟨[(0, iE s), (1, iI d), (5, .acc 0 2 []), (6, iI 0)], [(0, .row 49 2)], 1⟩) (Gh.le (by simp [push_cast, -List.getD_eq_getElem?_getD]) (by simp)) ?_
  ((repeat refine PWp.seq ?_); refine PWp.block ?_)
  refine PWp.loop (fun c st => ∃ k : Nat, c = s.length - k ∧ k ≤ s.length ∧
    st = ⟨[(0, iE s), (1, iI d), (5, .acc 0 2 ((sdF d (s.take k)).map encL)), (6, iI k)], [(0, .row 49 2)], 1⟩) _ _ ⟨0, rfl, Nat.zero_le _, rfl⟩ (Gh.le (by simp [push_cast, -List.getD_eq_getElem?_getD, sdF]) (by simp)) ?_
  rintro c st ⟨k, rfl, hk, rfl⟩
  ((repeat refine PWp.seq ?_); refine PWp.region TT (by rfl) (fun K hK => ?_); simp only [push_cast, seval, Nat.reduceEqDiff, Nat.reduceLeDiff, reduceCtorEq]; (repeat refine sk ?_); refine hK _ ?_; clear hK K)
  ((repeat refine PWp.seq ?_); refine PWp.cond (by simp only [push_cast, seval, Nat.reduceEqDiff, Nat.reduceLeDiff, reduceCtorEq]; rfl) (fun hc => ?_) (fun hc => ?_))
  · have hlt : k < s.length := by have := of_decide_eq_true hc; omega
    clear hc
    have hg : (s.map encE).getD k .any = encE (s.getD k default) := getD_map hlt
    have h1 := sdF_succ d hlt
    have h2 := sdF_len d (s.take k)
    have h3 := totL_le s (k + 1)
    have h4 := totL_succ hlt
    generalize s.getD k default = x at *
    ((repeat refine PWp.seq ?_); refine PWp.skip ?_)
    ((repeat refine PWp.seq ?_); refine PWp.block ?_)
    ((repeat refine PWp.seq ?_); refine PWp.region TT (by rfl) (fun K hK => ?_); simp only [push_cast, seval, Nat.reduceEqDiff, Nat.reduceLeDiff, reduceCtorEq, hg]; (repeat refine sk ?_); refine hK _ ?_; clear hK K)
    ((repeat refine PWp.seq ?_); refine PWp.cond (by simp only [push_cast, seval, Nat.reduceEqDiff, Nat.reduceLeDiff, reduceCtorEq]; rfl) (fun hc => ?_) (fun hc => ?_))
    · rw [if_pos (bne_iff_ne.1 hc)] at h1
      ((repeat refine PWp.seq ?_); refine PWp.region TT (by rfl) (fun K hK => ?_); simp only [push_cast, seval, Nat.reduceEqDiff, Nat.reduceLeDiff, reduceCtorEq, hg, lensLn x.l]; (repeat refine sk ?_); refine hK _ ?_; clear hK K)
      ((repeat refine PWp.seq ?_); refine PWp.region TT (by rfl) (fun K hK => ?_); simp only [push_cast, seval, Nat.reduceEqDiff, Nat.reduceLeDiff, reduceCtorEq, wrap64_id (n := (k : Int) + 1) (by omega) (by omega)]; (repeat refine sk ?_); refine hK _ ?_; clear hK K)
      refine ⟨_, _, ?_, ⟨k + 1, rfl, by omega, rfl⟩, Gh.le (by simp [push_cast, -List.getD_eq_getElem?_getD, h1]) (by simp)⟩
      omega
    · rw [if_neg (by simpa using hc), List.append_nil] at h1
      ((repeat refine PWp.seq ?_); refine PWp.skip ?_)
      ((repeat refine PWp.seq ?_); refine PWp.region TT (by rfl) (fun K hK => ?_); simp only [push_cast, seval, Nat.reduceEqDiff, Nat.reduceLeDiff, reduceCtorEq, wrap64_id (n := (k : Int) + 1) (by omega) (by omega)]; (repeat refine sk ?_); refine hK _ ?_; clear hK K)
      refine ⟨_, _, ?_, ⟨k + 1, rfl, by omega, rfl⟩, Gh.le (by simp [push_cast, -List.getD_eq_getElem?_getD, h1]) (by simp)⟩
      omega
  · have hk' : k = s.length := by have := of_decide_eq_false hc; omega
    subst hk'
    rw [List.take_length]
    (repeat refine PWp.seq ?_); refine PWp.exit (iteT rfl ?_)
    ((repeat refine PWp.seq ?_); refine PWp.region TT (by rfl) (fun K hK => ?_); simp only [push_cast, seval, Nat.reduceEqDiff, Nat.reduceLeDiff, reduceCtorEq]; (repeat refine sk ?_); refine hK _ ?_; clear hK K)
    ((repeat refine PWp.seq ?_); refine PWp.ret ?_)
    refine ⟨.inr rfl, by omega, _, [], ?_, rfl, rfl⟩
    (simp [push_cast, -List.getD_eq_getElem?_getD])
def sidA (s : List Ed) : List Ln := if chkE s = 0 then sA s else []
def sidB (s : List Ed) : List Ln := if chkE s = 0 then sB s else []
theorem ref08_Sides (s : List Ed) (hs : bigE s) : PC Try.prog 26 [iE s] [] 0 60 (fun t obs => t = .tup [iL (sidA s), iL (sidB s), iI (chkE s)] ∧ obs = []) := by
  refine PC.body [2, 3, 4] Try.func26 rfl (by rfl) (Nat.le_of_ble_eq_true (by rfl)) rfl ?_; simp only [enumA]
  ((repeat refine PWp.seq ?_); refine PWp.region TT (by rfl) (fun K hK => ?_); simp only [push_cast, seval, Nat.reduceEqDiff, Nat.reduceLeDiff, reduceCtorEq]; (repeat refine sk ?_); refine hK _ ?_; clear hK K)
  ((repeat refine PWp.seq ?_); refine PWp.region TT (by rfl) (fun K hK => ?_); simp only [push_cast, seval, Nat.reduceEqDiff, Nat.reduceLeDiff, reduceCtorEq])
  ((repeat refine sk ?_); refine PCall.use (ref08_Check s hs) [] rfl (by simp [push_cast]) (by simp) (by simp [push_cast]) (by simp [push_cast]) (by simp [push_cast]) (by simp [push_cast]) ?_)
  rintro _ _ ⟨rfl, rfl⟩
  (simp only [push_cast, seval, Nat.reduceEqDiff, Nat.reduceLeDiff, reduceCtorEq]; (repeat refine sk ?_); refine hK _ ?_; clear hK K)
  by_cases h : chkE s = 0
  · have hb : (chkE s != 0) = false := by rw [h]; rfl
    obtain ⟨c1, c2, c3⟩ := chk_zero h
    have h1 : sidA s = sdF 3 s := by rw [sdF_A]; exact if_pos h
    have h2 : sidB s = sdF 2 s := by rw [sdF_B]; exact if_pos h
    ((repeat refine PWp.seq ?_); refine PWp.region TT (by rfl) (fun K hK => ?_); simp only [push_cast, seval, Nat.reduceEqDiff, Nat.reduceLeDiff, reduceCtorEq, hb]; (repeat refine sk ?_); refine hK _ ?_; clear hK K)
    ((repeat refine PWp.seq ?_); refine PWp.cond (by simp only [push_cast, seval, Nat.reduceEqDiff, Nat.reduceLeDiff, reduceCtorEq]; rfl) (fun hc => ?_) (fun hc => ?_))
    · cases hc
    ((repeat refine PWp.seq ?_); refine PWp.skip ?_)
    ((repeat refine PWp.seq ?_); refine PWp.region TT (by rfl) (fun K hK => ?_); simp only [push_cast, seval, Nat.reduceEqDiff, Nat.reduceLeDiff, reduceCtorEq])
    ((repeat refine sk ?_); refine PCall.use (ref08_side s 3 (by omega) (by omega)) [] rfl (by simp [push_cast]) (by simp) (by simp [push_cast]) (by simp [push_cast]) (by simp [push_cast]) (by simp [push_cast]) ?_)
    rintro _ _ ⟨rfl, rfl⟩
    (simp only [push_cast, seval, Nat.reduceEqDiff, Nat.reduceLeDiff, reduceCtorEq])
    ((repeat refine sk ?_); refine PCall.use (ref08_side s 2 (by omega) (by omega)) [] rfl (by simp [push_cast]) (by simp) (by simp [push_cast]) (by simp [push_cast]) (by simp [push_cast]) (by simp [push_cast]) ?_)
    rintro _ _ ⟨rfl, rfl⟩
    (simp only [push_cast, seval, Nat.reduceEqDiff, Nat.reduceLeDiff, reduceCtorEq]; (repeat refine sk ?_); refine hK _ ?_; clear hK K)
    ((repeat refine PWp.seq ?_); refine PWp.ret ?_)
    refine ⟨.inr rfl, by omega, _, [], ?_, rfl, rfl⟩
    rw [h1, h2, h]
    (simp [push_cast, -List.getD_eq_getElem?_getD])
  · have hb : (chkE s != 0) = true := bne_iff_ne.2 h
    have h1 : sidA s = [] := if_neg h
    have h2 : sidB s = [] := if_neg h
    ((repeat refine PWp.seq ?_); refine PWp.region TT (by rfl) (fun K hK => ?_); simp only [push_cast, seval, Nat.reduceEqDiff, Nat.reduceLeDiff, reduceCtorEq, hb]; (repeat refine sk ?_); refine hK _ ?_; clear hK K)
    ((repeat refine PWp.seq ?_); refine PWp.cond (by simp only [push_cast, seval, Nat.reduceEqDiff, Nat.reduceLeDiff, reduceCtorEq]; rfl) (fun hc => ?_) (fun hc => ?_))
    · ((repeat refine PWp.seq ?_); refine PWp.region TT (by rfl) (fun K hK => ?_); simp only [push_cast, seval, Nat.reduceEqDiff, Nat.reduceLeDiff, reduceCtorEq]; (repeat refine sk ?_); refine hK _ ?_; clear hK K)
      ((repeat refine PWp.seq ?_); refine PWp.ret ?_)
      refine ⟨.inr rfl, by omega, _, [], ?_, rfl, rfl⟩
      rw [h1, h2]
      (simp [push_cast, -List.getD_eq_getElem?_getD])
    · cases hc
/-! ### Single lines -/
theorem sgl_append (s r : List Ed) : sgl (s ++ r) = sgl s ++ sgl r := by simp [sgl]
theorem sgl_succ {s : List Ed} {k : Nat} (h : k < s.length) : sgl (s.take (k + 1)) = sgl (s.take k) ++ sg1 (s.getD k default) := by
  rw [take_succ_getD h, sgl_append]
  simp [sgl]
theorem sgl_len (s : List Ed) : (sgl s).length = totL s := by
  induction s with
  | nil => rfl
  | cons e s ih =>
    have : sgl (e :: s) = sg1 e ++ sgl s := rfl
    rw [this, List.length_append, ih, totL, sg1, List.length_map]
def sgT (e : Ed) (j : Nat) : List Ed := (e.l.take j).map fun x => ⟨e.d, [x]⟩
theorem sgT_succ (e : Ed) {j : Nat} (h : j < e.l.length) : sgT e (j + 1) = sgT e j ++ [⟨e.d, [e.l.getD j default]⟩] := by
  unfold sgT
  rw [take_succ_getD h, List.map_append]
  rfl
theorem sgT_all (e : Ed) : sgT e e.l.length = sg1 e := by unfold sgT sg1; rw [List.take_length]
theorem sgT_len (e : Ed) (j : Nat) : (sgT e j).length ≤ e.l.length := by unfold sgT; rw [List.length_map, List.length_take]; omega
set_option maxHeartbeats 1000000 in
theorem ref09_Single (s : List Ed) (hs : s.length ≤ 100000) (ht : totL s ≤ 1000000) : PC Try.prog 45 [iE s] [] 0 9 (fun t obs => t = iE (sgl s) ∧ obs = []) := by
  refine PC.body [2] Try.func45 rfl (by rfl) (Nat.le_of_ble_eq_true (by rfl)) rfl ?_; simp only [enumA]
  ((repeat refine PWp.seq ?_); refine PWp.region TT (by rfl) (fun K hK => ?_); simp only [push_cast, seval, Nat.reduceEqDiff, Nat.reduceLeDiff, reduceCtorEq]; (repeat refine sk ?_); refine hK _ ?_; clear hK K)
  ((repeat refine PWp.seq ?_); refine PWp.region TT (by rfl) (fun K hK => ?_); simp only [push_cast, seval, Nat.reduceEqDiff, Nat.reduceLeDiff, reduceCtorEq]; (repeat refine sk ?_); refine hK _ ?_; clear hK K)
  ((repeat refine PWp.seq ?_); refine PWp.region TT (by rfl) (fun K hK => ?_); simp only [push_cast, seval, Nat.reduceEqDiff, Nat.reduceLeDiff, reduceCtorEq]; (repeat refine sk ?_); refine hK _ ?_; clear hK K)
  refine PWp.gh (st' := ⟨[(0, iE s), (3, .acc 0 2 []), (4, iI 0)], [(0, .row 62 2)], 1⟩) (Gh.le (by simp [push_cast, -List.getD_eq_getElem?_getD]) (by simp)) ?_
  ((repeat refine PWp.seq ?_); refine PWp.block ?_)
  refine PWp.loop (fun c st => ∃ k : Nat, c = s.length - k ∧ k ≤ s.length ∧
    st = ⟨[(0, iE s), (3, .acc 0 2 ((sgl (s.take k)).map encE)), (4, iI k)], [(0, .row 62 2)], 1⟩) _ _ ⟨0, rfl, Nat.zero_le _, rfl⟩ (Gh.le (by simp [push_cast, -List.getD_eq_getElem?_getD, sgl]) (by simp)) ?_
  rintro c st ⟨k, rfl, hk, rfl⟩
  ((repeat refine PWp.seq ?_); refine PWp.region TT (by rfl) (fun K hK => ?_); simp only [push_cast, seval, Nat.reduceEqDiff, Nat.reduceLeDiff, reduceCtorEq]; (repeat refine sk ?_); refine hK _ ?_; clear hK K)
  ((repeat refine PWp.seq ?_); refine PWp.cond (by simp only [push_cast, seval, Nat.reduceEqDiff, Nat.reduceLeDiff, reduceCtorEq]; rfl) (fun hc => ?_) (fun hc => ?_))
  · have hlt : k < s.length := by have := of_decide_eq_true hc; omega
    clear hc
    have hg : (s.map encE).getD k .any = encE (s.getD k default) := getD_map hlt
    have h1 := sgl_succ hlt
    have h2 := sgl_len (s.take k)
    have h3 := totL_le s (k + 1)
    have h4 := totL_succ hlt
    generalize s.getD k default = x at *
    generalize sgl (s.take k) = S at *
    ((repeat refine PWp.seq ?_); refine PWp.skip ?_)
    ((repeat refine PWp.seq ?_); refine PWp.block ?_)
    ((repeat refine PWp.seq ?_); refine PWp.region TT (by rfl) (fun K hK => ?_); simp only [push_cast, seval, Nat.reduceEqDiff, Nat.reduceLeDiff, reduceCtorEq]; (repeat refine sk ?_); refine hK _ ?_; clear hK K)
    ((repeat refine PWp.seq ?_); refine PWp.block ?_)
    refine PWp.loop (fun c st => ∃ j : Nat, c = x.l.length - j ∧ j ≤ x.l.length ∧
      st = ⟨[(0, iE s), (3, .acc 0 2 ((S ++ sgT x j).map encE)), (4, iI k), (5, iI j)], [(0, .row 62 2)], 1⟩) _ _ ⟨0, rfl, Nat.zero_le _, rfl⟩ (Gh.le (by simp [push_cast, -List.getD_eq_getElem?_getD, sgT]) (by simp)) ?_
    rintro c st ⟨j, rfl, hj, rfl⟩
    ((repeat refine PWp.seq ?_); refine PWp.region TT (by rfl) (fun K hK => ?_); simp only [push_cast, seval, Nat.reduceEqDiff, Nat.reduceLeDiff, reduceCtorEq, hg]; (repeat refine sk ?_); refine hK _ ?_; clear hK K)
    ((repeat refine PWp.seq ?_); refine PWp.cond (by simp only [push_cast, seval, Nat.reduceEqDiff, Nat.reduceLeDiff, reduceCtorEq]; rfl) (fun hc => ?_) (fun hc => ?_))
    · have hjl : j < x.l.length := by have := of_decide_eq_true hc; omega
      clear hc
      have hgl : (x.l.map encL).getD j .any = encL (x.l.getD j default) := getD_map hjl
      have g1 := sgT_succ x hjl
      have g2 := sgT_len x j
      generalize x.l.getD j default = y at *
      ((repeat refine PWp.seq ?_); refine PWp.skip ?_)
      ((repeat refine PWp.seq ?_); refine PWp.block ?_)
      ((repeat refine PWp.seq ?_); refine PWp.drawT TT (by kernel_rfl) [] (.q 0 (.q 1 (.q 2 (.q 3 (.q 4 (.q 5 (.q 6 (.q 7 (.q 8 (.q 9 (.q 10 (.q 11 (.q 12 (.q 13 (.x 14 (.q 15 (.x 16 (.x 17 (.q 18 .nil))))))))))))))))))) (by rfl) (by kernel_rfl) (by rfl) (by simp) (fun K hK => ?_); simp only [push_cast, seval, Nat.reduceEqDiff, Nat.reduceLeDiff, reduceCtorEq, hg, hgl]; (repeat refine sk ?_); refine hK _ ?_; clear hK K)
      ((repeat refine PWp.seq ?_); refine PWp.region TT (by rfl) (fun K hK => ?_); simp only [push_cast, seval, Nat.reduceEqDiff, Nat.reduceLeDiff, reduceCtorEq, wrap64_id (n := (j : Int) + 1) (by omega) (by omega)]; (repeat refine sk ?_); refine hK _ ?_; clear hK K)
      refine ⟨_, _, ?_, ⟨j + 1, rfl, by omega, rfl⟩, Gh.le (by simp [push_cast, -List.getD_eq_getElem?_getD, g1]) (by simp)⟩
      omega
    · have hjl : j = x.l.length := by have := of_decide_eq_false hc; omega
      subst hjl
      rw [sgT_all, ← h1]
      (repeat refine PWp.seq ?_); refine PWp.exit (iteT rfl ?_)
      ((repeat refine PWp.seq ?_); refine PWp.region TT (by rfl) (fun K hK => ?_); simp only [push_cast, seval, Nat.reduceEqDiff, Nat.reduceLeDiff, reduceCtorEq, wrap64_id (n := (k : Int) + 1) (by omega) (by omega)]; (repeat refine sk ?_); refine hK _ ?_; clear hK K)
      refine ⟨_, _, ?_, ⟨k + 1, rfl, by omega, rfl⟩, Gh.le (by simp [push_cast, -List.getD_eq_getElem?_getD]) (by simp)⟩
      omega
  · have hk' : k = s.length := by have := of_decide_eq_false hc; omega
    subst hk'
    rw [List.take_length]
    (repeat refine PWp.seq ?_); refine PWp.exit (iteT rfl ?_)
    ((repeat refine PWp.seq ?_); refine PWp.region TT (by rfl) (fun K hK => ?_); simp only [push_cast, seval, Nat.reduceEqDiff, Nat.reduceLeDiff, reduceCtorEq]; (repeat refine sk ?_); refine hK _ ?_; clear hK K)
    ((repeat refine PWp.seq ?_); refine PWp.ret ?_)
    refine ⟨.inr rfl, by omega, _, [], ?_, rfl, rfl⟩
    (simp [push_cast, -List.getD_eq_getElem?_getD])
/-! ### Substitutions -/
def qF (N : List Ed) (k : Nat) : FS := (N.take k).foldl stO ⟨[], 0, true⟩
theorem qF_succ {N : List Ed} {k : Nat} (h : k < N.length) : qF N (k + 1) = stO (qF N k) (N.getD k default) := by
  unfold qF
  rw [take_succ_getD h, List.foldl_append]
  rfl
theorem setIn_len (o : List Sb) (l : List Ln) : (setIn o l).length = o.length := by
  rcases List.eq_nil_or_concat o with rfl | ⟨A, s, h⟩
  · rfl
  · have h' : o = A ++ [s] := by simpa using h
    subst h'
    rw [setIn_last]; simp
theorem setOut_len (o : List Sb) (l : List Ln) : (setOut o l).length = o.length := by
  rcases List.eq_nil_or_concat o with rfl | ⟨A, s, h⟩
  · rfl
  · have h' : o = A ++ [s] := by simpa using h
    subst h'
    rw [setOut_last]; simp
theorem opn_len (q : FS) : (opn q).length ≤ q.o.length + 1 ∧ ((q.f = false → q.o ≠ []) → opn q ≠ []) := by
  unfold opn
  cases q.f
  · simp
  · simp
theorem qF_b (N : List Ed) : ∀ k, k ≤ N.length → (qF N k).o.length ≤ k ∧ 0 ≤ (qF N k).a ∧ (qF N k).a ≤ totL (N.take k) ∧ ((qF N k).f = false → (qF N k).o ≠ [])
  | 0, _ => by simp [qF, totL]
  | k + 1, h => by
    obtain ⟨h1, h2, h3, h4⟩ := qF_b N k (by omega)
    obtain ⟨h5, h6⟩ := opn_len (qF N k)
    have h7 := h6 h4
    rw [qF_succ (by omega), totL_succ (by omega)]
    generalize N.getD k default = e at *
    generalize qF N k = q at *
    have h8 := List.length_pos_iff.2 h7
    unfold stO
    split
    · refine ⟨by simp only; omega, by simp only; omega, by simp only; omega, fun h => by cases h⟩
    · split
      · refine ⟨by rw [setIn_len]; omega, h2, by simp only; omega, fun _ => ?_⟩
        simp only
        rw [← List.length_pos_iff, setIn_len]
        exact h8
      · refine ⟨by rw [setOut_len]; omega, by simp only; omega, by simp only; omega, fun _ => ?_⟩
        simp only
        rw [← List.length_pos_iff, setOut_len]
        exact h8
theorem getD_lastS {L : List IV} {x d : IV} {n : Nat} (h : L.length = n) : (L ++ [x]).getD n d = x := getD_last h
def ofL (s : List Ed) : List Sb := ofP none 0 (norL s)
theorem norm_d (s : List Ed) : ∀ e ∈ norL s, e.d = 1 ∨ e.d = 2 ∨ e.d = 3 := by
  have h := norm_nf s
  generalize norL s = N at *
  have key : ∀ (N : List Ed) (ho hi : Bool), nf ho hi N = true → ∀ e ∈ N, e.d = 1 ∨ e.d = 2 ∨ e.d = 3 := by
    intro N
    induction N with
    | nil => intro _ _ _ e h; cases h
    | cons x r ih =>
      intro ho hi hn e he
      obtain ⟨hl, hh⟩ := nf_cons hn
      rcases List.mem_cons.1 he with rfl | he
      · rcases hh with ⟨h, _⟩ | ⟨h, _⟩ | ⟨h, _⟩ <;> omega
      · rcases hh with ⟨_, h⟩ | ⟨_, _, h⟩ | ⟨_, _, h⟩ <;> exact ih _ _ h e he
  exact key N _ _ h
theorem ofL_qF (s : List Ed) : ofL s = (qF (norL s) (norL s).length).o := by
  have := stO_of (norL s) [] none 0 (norm_d s)
  unfold qF ofL
  rw [List.take_length]
  simpa using this.symm
theorem norm_len {s : List Ed} (h : chkE s = 0) : (norL s).length ≤ totL (norL s) := by
  have hn := norm_nf s
  generalize norL s = N at *
  have key : ∀ (N : List Ed) (ho hi : Bool), nf ho hi N = true → N.length ≤ totL N := by
    intro N
    induction N with
    | nil => intro _ _ _; simp
    | cons x r ih =>
      intro ho hi hn
      obtain ⟨hl, hh⟩ := nf_cons hn
      have hp := List.length_pos_iff.2 hl
      have : r.length ≤ totL r := by rcases hh with ⟨_, h⟩ | ⟨_, _, h⟩ | ⟨_, _, h⟩ <;> exact ih _ _ h
      simp only [List.length_cons, totL]
      omega
  exact key N _ _ hn
set_option maxHeartbeats 2000000 in
theorem shift_Of (s : List Ed) (hs : bigE s) : PC Try.prog 24 [iE s] [] 0 90 (fun t obs => t = .tup [iP (ofL s), iI (chkE s)] ∧ obs = []) := by
  refine PC.body [2, 3] Try.func24 rfl (by rfl) (Nat.le_of_ble_eq_true (by rfl)) rfl ?_; simp only [enumA]
  ((repeat refine PWp.seq ?_); refine PWp.region TT (by rfl) (fun K hK => ?_); simp only [push_cast, seval, Nat.reduceEqDiff, Nat.reduceLeDiff, reduceCtorEq]; (repeat refine sk ?_); refine hK _ ?_; clear hK K)
  ((repeat refine PWp.seq ?_); refine PWp.region TT (by rfl) (fun K hK => ?_); simp only [push_cast, seval, Nat.reduceEqDiff, Nat.reduceLeDiff, reduceCtorEq])
  ((repeat refine sk ?_); refine PCall.use (script_Normal s hs) [] rfl (by simp [push_cast]) (by simp) (by simp [push_cast]) (by simp [push_cast]) (by simp [push_cast]) (by simp [push_cast]) ?_)
  rintro _ _ ⟨rfl, rfl⟩
  (simp only [push_cast, seval, Nat.reduceEqDiff, Nat.reduceLeDiff, reduceCtorEq]; (repeat refine sk ?_); refine hK _ ?_; clear hK K)
  by_cases h : chkE s = 0
  case neg =>
    have hb : (chkE s != 0) = true := bne_iff_ne.2 h
    have hn : ofL s = [] := by
      unfold ofL
      rw [show norL s = [] from if_neg h]
      rfl
    ((repeat refine PWp.seq ?_); refine PWp.region TT (by rfl) (fun K hK => ?_); simp only [push_cast, seval, Nat.reduceEqDiff, Nat.reduceLeDiff, reduceCtorEq, hb]; (repeat refine sk ?_); refine hK _ ?_; clear hK K)
    ((repeat refine PWp.seq ?_); refine PWp.cond (by simp only [push_cast, seval, Nat.reduceEqDiff, Nat.reduceLeDiff, reduceCtorEq]; rfl) (fun hc => ?_) (fun hc => ?_))
    · ((repeat refine PWp.seq ?_); refine PWp.region TT (by rfl) (fun K hK => ?_); simp only [push_cast, seval, Nat.reduceEqDiff, Nat.reduceLeDiff, reduceCtorEq]; (repeat refine sk ?_); refine hK _ ?_; clear hK K)
      ((repeat refine PWp.seq ?_); refine PWp.ret ?_)
      refine ⟨.inr rfl, by omega, _, [], ?_, rfl, rfl⟩
      rw [hn]
      (simp [push_cast, -List.getD_eq_getElem?_getD])
    · cases hc
  obtain ⟨c1, c2, c3⟩ := chk_zero h
  have hb : (chkE s != 0) = false := by rw [h]; rfl
  have hof := ofL_qF s
  have hnd := norm_d s
  have hnl := norm_len h
  have hnt := (norm_sides h).2.2
  generalize norL s = M at *
  ((repeat refine PWp.seq ?_); refine PWp.region TT (by rfl) (fun K hK => ?_); simp only [push_cast, seval, Nat.reduceEqDiff, Nat.reduceLeDiff, reduceCtorEq, hb]; (repeat refine sk ?_); refine hK _ ?_; clear hK K)
  ((repeat refine PWp.seq ?_); refine PWp.cond (by simp only [push_cast, seval, Nat.reduceEqDiff, Nat.reduceLeDiff, reduceCtorEq]; rfl) (fun hc => ?_) (fun hc => ?_))
  · cases hc
  clear hc
  ((repeat refine PWp.seq ?_); refine PWp.skip ?_)
  ((repeat refine PWp.seq ?_); refine PWp.region TT (by rfl) (fun K hK => ?_); simp only [push_cast, seval, Nat.reduceEqDiff, Nat.reduceLeDiff, reduceCtorEq]; (repeat refine sk ?_); refine hK _ ?_; clear hK K)
  refine PWp.gh (Gh.mrow 6 47 3 (by rfl)) ?_
  ((repeat refine PWp.seq ?_); refine PWp.region TT (by rfl) (fun K hK => ?_); simp only [push_cast, seval, Nat.reduceEqDiff, Nat.reduceLeDiff, reduceCtorEq]; (repeat refine sk ?_); refine hK _ ?_; clear hK K)
  ((repeat refine PWp.seq ?_); refine PWp.region TT (by rfl) (fun K hK => ?_); simp only [push_cast, seval, Nat.reduceEqDiff, Nat.reduceLeDiff, reduceCtorEq]; (repeat refine sk ?_); refine hK _ ?_; clear hK K)
  refine PWp.gh (st' := ⟨[(6, .mrow 0), (7, iI 0), (8, iB true), (20, iE M), (21, iI M.length), (22, iI 0)], [(0, .mrow 47 3 [])], 1⟩) (Gh.leR [60] (by simp [push_cast, -List.getD_eq_getElem?_getD]; try decide)) ?_
  ((repeat refine PWp.seq ?_); refine PWp.block ?_)
  refine PWp.loop (fun c st => ∃ k : Nat, c = M.length - k ∧ k ≤ M.length ∧
    st = ⟨[(6, .mrow 0), (7, iI (qF M k).a), (8, iB (qF M k).f), (20, iE M), (21, iI M.length), (22, iI k)], [(0, .mrow 47 3 ((qF M k).o.map encS))], 1⟩) _ _ ⟨0, rfl, Nat.zero_le _, rfl⟩ (Gh.le (by simp [push_cast, -List.getD_eq_getElem?_getD, qF]) (by simp)) ?_
  rintro c st ⟨k, rfl, hk, rfl⟩
  ((repeat refine PWp.seq ?_); refine PWp.region TT (by rfl) (fun K hK => ?_); simp only [push_cast, seval, Nat.reduceEqDiff, Nat.reduceLeDiff, reduceCtorEq]; (repeat refine sk ?_); refine hK _ ?_; clear hK K)
  ((repeat refine PWp.seq ?_); refine PWp.cond (by simp only [push_cast, seval, Nat.reduceEqDiff, Nat.reduceLeDiff, reduceCtorEq]; rfl) (fun hc => ?_) (fun hc => ?_))
  · have hlt : k < M.length := by have := of_decide_eq_true hc; omega
    clear hc
    have hg : (M.map encE).getD k .any = encE (M.getD k default) := getD_map hlt
    obtain ⟨b1, b2, b3, b4⟩ := qF_b M k hk
    have h1 := qF_succ hlt
    have h3 := totL_le M (k + 1)
    have h4 := totL_succ hlt
    have hxd := hnd _ (getD_mem hlt)
    generalize M.getD k default = x at *
    generalize qF M k = q at *
    obtain ⟨o1, o2⟩ := opn_len q
    have o3 := o2 b4
    have w1 := wrap64_id (n := q.a + x.l.length) (by omega) (by omega)
    have w2 := wrap64_id (n := (k : Int) + 1) (by omega) (by omega)
    ((repeat refine PWp.seq ?_); refine PWp.skip ?_)
    ((repeat refine PWp.seq ?_); refine PWp.block ?_)
    ((repeat refine PWp.seq ?_); refine PWp.region TT (by rfl) (fun K hK => ?_); simp only [push_cast, seval, Nat.reduceEqDiff, Nat.reduceLeDiff, reduceCtorEq, hg]; (repeat refine sk ?_); refine hK _ ?_; clear hK K)
    by_cases hd1 : x.d = 1
    · have e1 : stO q x = ⟨q.o, q.a + x.l.length, true⟩ := if_pos hd1
      rw [e1] at h1
      ((repeat refine PWp.seq ?_); refine PWp.region TT (by rfl) (fun K hK => ?_); simp only [push_cast, seval, Nat.reduceEqDiff, Nat.reduceLeDiff, reduceCtorEq, hd1]; (repeat refine sk ?_); refine hK _ ?_; clear hK K)
      ((repeat refine PWp.seq ?_); refine PWp.cond (by simp only [push_cast, seval, Nat.reduceEqDiff, Nat.reduceLeDiff, reduceCtorEq]; rfl) (fun hc => ?_) (fun hc => ?_))
      · ((repeat refine PWp.seq ?_); refine PWp.region TT (by rfl) (fun K hK => ?_); simp only [push_cast, seval, Nat.reduceEqDiff, Nat.reduceLeDiff, reduceCtorEq, w1]; (repeat refine sk ?_); refine hK _ ?_; clear hK K)
        (repeat refine PWp.seq ?_); refine PWp.exit (iteT rfl ?_)
        ((repeat refine PWp.seq ?_); refine PWp.region TT (by rfl) (fun K hK => ?_); simp only [push_cast, seval, Nat.reduceEqDiff, Nat.reduceLeDiff, reduceCtorEq, w2]; (repeat refine sk ?_); refine hK _ ?_; clear hK K)
        refine ⟨_, _, ?_, ⟨k + 1, rfl, by omega, rfl⟩, Gh.le (by simp [push_cast, -List.getD_eq_getElem?_getD, h1]) (by simp)⟩
        omega
      · cases hc
    have hb1 : (x.d == 1) = false := beq_eq_false_iff_ne.2 hd1
    ((repeat refine PWp.seq ?_); refine PWp.region TT (by rfl) (fun K hK => ?_); simp only [push_cast, seval, Nat.reduceEqDiff, Nat.reduceLeDiff, reduceCtorEq, hb1]; (repeat refine sk ?_); refine hK _ ?_; clear hK K)
    ((repeat refine PWp.seq ?_); refine PWp.cond (by simp only [push_cast, seval, Nat.reduceEqDiff, Nat.reduceLeDiff, reduceCtorEq]; rfl) (fun hc => ?_) (fun hc => ?_))
    · cases hc
    ((repeat refine PWp.seq ?_); refine PWp.skip ?_)
    refine PJoin ⟨[(6, .mrow 0), (7, iI q.a), (8, iB false), (10, .bptr 1 0), (20, iE M), (21, iI M.length), (22, iI k)], [(0, .mrow 47 3 ((opn q).map encS)), (1, .box 62 [iI x.d, .iv (.sl 2 (x.l.map encL))])], 2⟩ ?_ ?_
    · unfold opn
      cases hf : q.f with
      | true =>
        ((repeat refine PWp.seq ?_); refine PWp.region TT (by rfl) (fun K hK => ?_); simp only [push_cast, seval, Nat.reduceEqDiff, Nat.reduceLeDiff, reduceCtorEq, hf]; (repeat refine sk ?_); refine hK _ ?_; clear hK K)
        ((repeat refine PWp.seq ?_); refine PWp.cond (by simp only [push_cast, seval, Nat.reduceEqDiff, Nat.reduceLeDiff, reduceCtorEq]; rfl) (fun hc => ?_) (fun hc => ?_))
        · ((repeat refine PWp.seq ?_); refine PWp.region TT (by rfl) (fun K hK => ?_); simp only [push_cast, seval, Nat.reduceEqDiff, Nat.reduceLeDiff, reduceCtorEq]; (repeat refine sk ?_); refine hK _ ?_; clear hK K)
          refine ⟨rfl, Gh.trans (Gh.mleqLast 2 (encS ⟨q.a, [], []⟩) (by rfl) (by simp [encS, IV.leq, IV.leqL])) ?_⟩
          exact Gh.leR [2, 1] (by simp [push_cast, -List.getD_eq_getElem?_getD, encS]; try decide)
        · cases hc
      | false =>
        ((repeat refine PWp.seq ?_); refine PWp.region TT (by rfl) (fun K hK => ?_); simp only [push_cast, seval, Nat.reduceEqDiff, Nat.reduceLeDiff, reduceCtorEq, hf]; (repeat refine sk ?_); refine hK _ ?_; clear hK K)
        ((repeat refine PWp.seq ?_); refine PWp.cond (by simp only [push_cast, seval, Nat.reduceEqDiff, Nat.reduceLeDiff, reduceCtorEq]; rfl) (fun hc => ?_) (fun hc => ?_))
        · cases hc
        · ((repeat refine PWp.seq ?_); refine PWp.skip ?_)
          exact ⟨rfl, Gh.le (by simp [push_cast, -List.getD_eq_getElem?_getD]) (by simp)⟩
    rcases List.eq_nil_or_concat (opn q) with h0 | ⟨A, y, hA⟩
    · exact absurd h0 o3
    have hA' : opn q = A ++ [y] := by simpa using hA
    clear hA
    rw [hA'] at o1 ⊢
    have hAl : A.length + 1 ≤ q.o.length + 1 := by simpa using o1
    have hml : (A.map encS).length = A.length := List.length_map ..
    have w3 : IntKind.i64.wrap ((A.length : Int) + 1 - 1) = (A.length : Int) := by rw [wrap64_id (by omega) (by omega)]; omega
    have g1 := fun (x y : IV) => getD_last (L := A.map encS) (x := x) (d := y) hml
    have g2 := fun (x y : IV) => set_last (L := A.map encS) (x := x) (y := y) hml
    ((repeat refine PWp.seq ?_); refine PWp.region TT (by rfl) (fun K hK => ?_); simp only [push_cast, seval, Nat.reduceEqDiff, Nat.reduceLeDiff, reduceCtorEq, List.map_append, w3]; (repeat refine sk ?_); refine hK _ ?_; clear hK K)
    by_cases hd3 : x.d = 3
    · have e1 : stO q x = ⟨A ++ [⟨y.at_, y.out, x.l⟩], q.a, false⟩ := by
        unfold stO
        rw [if_neg hd1, if_pos hd3, hA', setIn_last]
      rw [e1] at h1
      ((repeat refine PWp.seq ?_); refine PWp.region TT (by rfl) (fun K hK => ?_); simp only [push_cast, seval, Nat.reduceEqDiff, Nat.reduceLeDiff, reduceCtorEq, hd3]; (repeat refine sk ?_); refine hK _ ?_; clear hK K)
      ((repeat refine PWp.seq ?_); refine PWp.cond (by simp only [push_cast, seval, Nat.reduceEqDiff, Nat.reduceLeDiff, reduceCtorEq]; rfl) (fun hc => ?_) (fun hc => ?_))
      · ((repeat refine PWp.seq ?_); refine PWp.region TT (by rfl) (fun K hK => ?_); simp only [push_cast, seval, Nat.reduceEqDiff, Nat.reduceLeDiff, reduceCtorEq])
        ((repeat refine sk ?_); refine PCall.use (Clone_lines x.l (by omega)) [] rfl (by simp [push_cast]) (by simp) (by simp [push_cast]) (by simp [push_cast]) (by simp [push_cast]) (by simp [push_cast]) ?_)
        rintro _ _ ⟨rfl, rfl⟩
        (simp only [push_cast, seval, Nat.reduceEqDiff, Nat.reduceLeDiff, reduceCtorEq, g1, g2]; (repeat refine sk ?_); refine hK _ ?_; clear hK K)
        (repeat refine PWp.seq ?_); refine PWp.exit (iteT rfl ?_)
        ((repeat refine PWp.seq ?_); refine PWp.region TT (by rfl) (fun K hK => ?_); simp only [push_cast, seval, Nat.reduceEqDiff, Nat.reduceLeDiff, reduceCtorEq, w2]; (repeat refine sk ?_); refine hK _ ?_; clear hK K)
        refine ⟨_, _, ?_, ⟨k + 1, rfl, by omega, rfl⟩, Gh.le (by simp [push_cast, -List.getD_eq_getElem?_getD, h1]) (by simp)⟩
        omega
      · cases hc
    · have e1 : stO q x = ⟨A ++ [⟨y.at_, x.l, y.in_⟩], q.a + x.l.length, false⟩ := by
        unfold stO
        rw [if_neg hd1, if_neg hd3, hA', setOut_last]
      rw [e1] at h1
      have hb3 : (x.d == 3) = false := beq_eq_false_iff_ne.2 hd3
      ((repeat refine PWp.seq ?_); refine PWp.region TT (by rfl) (fun K hK => ?_); simp only [push_cast, seval, Nat.reduceEqDiff, Nat.reduceLeDiff, reduceCtorEq, hb3]; (repeat refine sk ?_); refine hK _ ?_; clear hK K)
      ((repeat refine PWp.seq ?_); refine PWp.cond (by simp only [push_cast, seval, Nat.reduceEqDiff, Nat.reduceLeDiff, reduceCtorEq]; rfl) (fun hc => ?_) (fun hc => ?_))
      · cases hc
      ((repeat refine PWp.seq ?_); refine PWp.skip ?_)
      ((repeat refine PWp.seq ?_); refine PWp.region TT (by rfl) (fun K hK => ?_); simp only [push_cast, seval, Nat.reduceEqDiff, Nat.reduceLeDiff, reduceCtorEq])
      ((repeat refine sk ?_); refine PCall.use (Clone_lines x.l (by omega)) [] rfl (by simp [push_cast]) (by simp) (by simp [push_cast]) (by simp [push_cast]) (by simp [push_cast]) (by simp [push_cast]) ?_)
      rintro _ _ ⟨rfl, rfl⟩
      (simp only [push_cast, seval, Nat.reduceEqDiff, Nat.reduceLeDiff, reduceCtorEq, g1, g2]; (repeat refine sk ?_); refine hK _ ?_; clear hK K)
      ((repeat refine PWp.seq ?_); refine PWp.region TT (by rfl) (fun K hK => ?_); simp only [push_cast, seval, Nat.reduceEqDiff, Nat.reduceLeDiff, reduceCtorEq, w1]; (repeat refine sk ?_); refine hK _ ?_; clear hK K)
      ((repeat refine PWp.seq ?_); refine PWp.region TT (by rfl) (fun K hK => ?_); simp only [push_cast, seval, Nat.reduceEqDiff, Nat.reduceLeDiff, reduceCtorEq, w2]; (repeat refine sk ?_); refine hK _ ?_; clear hK K)
      refine ⟨_, _, ?_, ⟨k + 1, rfl, by omega, rfl⟩, Gh.le (by simp [push_cast, -List.getD_eq_getElem?_getD, h1]) (by simp)⟩
      omega
  · have hk' : k = M.length := by have := of_decide_eq_false hc; omega
    subst hk'
    (repeat refine PWp.seq ?_); refine PWp.exit (iteT rfl ?_)
    rw [← hof]
    refine PWp.gh (Gh.freeze 0 (by rfl)) ?_
    ((repeat refine PWp.seq ?_); refine PWp.region TT (by rfl) (fun K hK => ?_); simp only [push_cast, seval, Nat.reduceEqDiff, Nat.reduceLeDiff, reduceCtorEq]; (repeat refine sk ?_); refine hK _ ?_; clear hK K)
    ((repeat refine PWp.seq ?_); refine PWp.ret ?_)
    refine ⟨.inr rfl, by omega, _, [], ?_, rfl, rfl⟩
    rw [h]
    (simp [push_cast, -List.getD_eq_getElem?_getD])
end Go.Proofs.Ytjjgnopebokfoaa
namespace Go.Proofs.Ytjjgnopebokfoaa
open Go.PL
set_option maxRecDepth 100000
set_option linter.unusedSimpArgs false
set_option linter.unusedVariables false
def rQ (L : List Ed) (k : Nat) : FS := (L.take k).foldl st1 ⟨[], 0, true⟩
theorem rQ_succ {N : List Ed} {k : Nat} (h : k < N.length) : rQ N (k + 1) = st1 (rQ N k) (N.getD k default) := by
  unfold rQ
  rw [take_succ_getD h, List.foldl_append]
  rfl
theorem st1_f (q : FS) (e : Ed) : (st1 q e).f = decide (e.d = 1) := by
  unfold st1
  by_cases h : e.d = 1
  · rw [if_pos h, decide_eq_true h]
  · rw [if_neg h, decide_eq_false h]
    split <;> rfl
theorem rQ_f {N : List Ed} {k : Nat} (h : k ≤ N.length) : (rQ N k).f = (decide (k = 0) || decide ((N.getD (k - 1) default).d = 1)) := by
  cases k with
  | zero => rfl
  | succ k =>
    rw [rQ_succ (by omega), st1_f]
    simp
/-- Substitutions with few lines. -/
def fewS (n : Nat) (o : List Sb) : Prop := o.length ≤ n ∧ ∀ s ∈ o, s.out.length ≤ n ∧ s.in_.length ≤ n
theorem fewS_opn {n : Nat} {q : FS} (h : fewS n q.o) : fewS (n + 1) (opn q) := by
  unfold opn
  cases q.f
  · exact ⟨by have := h.1; simp; omega, fun s hs => by have := h.2 s hs; omega⟩
  · refine ⟨by have := h.1; simp; omega, fun s hs => ?_⟩
    rw [if_pos rfl] at hs
    rcases List.mem_append.1 hs with hs | hs
    · have := h.2 s hs; omega
    · simp only [List.mem_singleton] at hs
      subst hs
      simp
theorem rQ_b {N : List Ed} (hN : ∀ e ∈ N, e.l.length = 1) : ∀ k, k ≤ N.length → fewS k (rQ N k).o ∧ 0 ≤ (rQ N k).a ∧ (rQ N k).a ≤ k ∧ ((rQ N k).f = false → (rQ N k).o ≠ [])
  | 0, _ => ⟨⟨by simp [rQ], fun s hs => by cases hs⟩, by simp [rQ], by simp [rQ], fun h => by cases h⟩
  | k + 1, h => by
    obtain ⟨h1, h2, h3, h4⟩ := rQ_b hN k (by omega)
    have hx := hN _ (getD_mem (show k < N.length by omega))
    have h6 := (opn_len (rQ N k)).2 h4
    rw [rQ_succ (by omega)]
    generalize N.getD k default = e at *
    generalize rQ N k = q at *
    unfold st1
    split
    · refine ⟨⟨by have := h1.1; show q.o.length ≤ _; omega, fun s hs => by have := h1.2 s hs; omega⟩, by simp only; omega, by simp only; omega, fun h => by cases h⟩
    · have h7 := fewS_opn h1
      rcases List.eq_nil_or_concat (opn q) with h0 | ⟨A, y, hA⟩
      · exact absurd h0 h6
      have hA' : opn q = A ++ [y] := by simpa using hA
      have hol : A.length + 1 ≤ q.o.length + 1 := by have := (opn_len q).1; rw [hA'] at this; simpa using this
      have hy : y.out.length ≤ k ∧ y.in_.length ≤ k := by
        by_cases hf : q.f = true
        · have : opn q = q.o ++ [⟨q.a, [], []⟩] := if_pos hf
          rw [this] at hA'
          have := List.append_inj_right' hA' rfl
          injection this with this
          subst this
          simp
        · have : opn q = q.o := if_neg hf
          rw [this] at hA'
          exact h1.2 y (by rw [hA']; simp)
      rw [hA'] at h7 ⊢
      have hA2 : ∀ s ∈ A, s.out.length ≤ k + 1 ∧ s.in_.length ≤ k + 1 := fun s hs => h7.2 s (List.mem_append_left _ hs)
      split
      · rw [addIn_last]
        refine ⟨⟨by have := h1.1; simp; omega, fun s hs => ?_⟩, h2, by simp only; omega, fun _ => by simp⟩
        rcases List.mem_append.1 hs with hs | hs
        · exact hA2 s hs
        · simp only [List.mem_singleton] at hs
          subst hs
          simp only [List.length_append]
          omega
      · rw [addOut_last]
        refine ⟨⟨by have := h1.1; simp; omega, fun s hs => ?_⟩, by simp only; omega, by simp only; omega, fun _ => by simp⟩
        rcases List.mem_append.1 hs with hs | hs
        · exact hA2 s hs
        · simp only [List.mem_singleton] at hs
          subst hs
          simp only [List.length_append]
          omega
theorem sgl_one (N : List Ed) : ∀ e ∈ sgl N, e.l.length = 1 := by
  intro e he
  unfold sgl at he
  obtain ⟨x, _, hx⟩ := List.mem_flatMap.1 he
  unfold sg1 at hx
  obtain ⟨y, _, rfl⟩ := List.mem_map.1 hx
  rfl
theorem ofL_rQ (s : List Ed) : ofL s = (rQ (sgl (norL s)) (sgl (norL s)).length).o := by
  have := st1_of (norL s) false false [] none 0 (norm_nf s) ⟨rfl, rfl⟩
  unfold rQ ofL
  rw [List.take_length]
  simpa using this.symm
theorem one_get {l : List Ln} (h : l.length = 1) : l = [l.getD 0 default] := by
  match l, h with
  | [x], _ => rfl
set_option maxHeartbeats 4000000 in
theorem ref38_Of (s : List Ed) (hs : bigE s) : PC Try.prog 25 [iE s] [] 0 90 (fun t obs => t = .tup [iP (ofL s), iI (chkE s)] ∧ obs = []) := by
  refine PC.body [2, 3] Try.func25 rfl (by rfl) (Nat.le_of_ble_eq_true (by rfl)) rfl ?_; simp only [enumA]
  ((repeat refine PWp.seq ?_); refine PWp.region TT (by rfl) (fun K hK => ?_); simp only [push_cast, seval, Nat.reduceEqDiff, Nat.reduceLeDiff, reduceCtorEq]; (repeat refine sk ?_); refine hK _ ?_; clear hK K)
  ((repeat refine PWp.seq ?_); refine PWp.region TT (by rfl) (fun K hK => ?_); simp only [push_cast, seval, Nat.reduceEqDiff, Nat.reduceLeDiff, reduceCtorEq])
  ((repeat refine sk ?_); refine PCall.use (ref08_Normal s hs) [] rfl (by simp [push_cast]) (by simp) (by simp [push_cast]) (by simp [push_cast]) (by simp [push_cast]) (by simp [push_cast]) ?_)
  rintro _ _ ⟨rfl, rfl⟩
  (simp only [push_cast, seval, Nat.reduceEqDiff, Nat.reduceLeDiff, reduceCtorEq]; (repeat refine sk ?_); refine hK _ ?_; clear hK K)
  by_cases h : chkE s = 0
  case neg =>
    have hb : (chkE s != 0) = true := bne_iff_ne.2 h
    have hn : ofL s = [] := by
      unfold ofL
      rw [show norL s = [] from if_neg h]
      rfl
    ((repeat refine PWp.seq ?_); refine PWp.region TT (by rfl) (fun K hK => ?_); simp only [push_cast, seval, Nat.reduceEqDiff, Nat.reduceLeDiff, reduceCtorEq, hb]; (repeat refine sk ?_); refine hK _ ?_; clear hK K)
    ((repeat refine PWp.seq ?_); refine PWp.cond (by simp only [push_cast, seval, Nat.reduceEqDiff, Nat.reduceLeDiff, reduceCtorEq]; rfl) (fun hc => ?_) (fun hc => ?_))
    · ((repeat refine PWp.seq ?_); refine PWp.region TT (by rfl) (fun K hK => ?_); simp only [push_cast, seval, Nat.reduceEqDiff, Nat.reduceLeDiff, reduceCtorEq]; (repeat refine sk ?_); refine hK _ ?_; clear hK K)
      ((repeat refine PWp.seq ?_); refine PWp.ret ?_)
      refine ⟨.inr rfl, by omega, _, [], ?_, rfl, rfl⟩
      rw [hn]
      (simp [push_cast, -List.getD_eq_getElem?_getD])
    · cases hc
  obtain ⟨c1, c2, c3⟩ := chk_zero h
  have hb : (chkE s != 0) = false := by rw [h]; rfl
  have hof := ofL_rQ s
  have hnl := norm_len h
  have hnt := (norm_sides h).2.2
  have hsl := sgl_len (norL s)
  have hso := sgl_one (norL s)
  ((repeat refine PWp.seq ?_); refine PWp.region TT (by rfl) (fun K hK => ?_); simp only [push_cast, seval, Nat.reduceEqDiff, Nat.reduceLeDiff, reduceCtorEq, hb]; (repeat refine sk ?_); refine hK _ ?_; clear hK K)
  ((repeat refine PWp.seq ?_); refine PWp.cond (by simp only [push_cast, seval, Nat.reduceEqDiff, Nat.reduceLeDiff, reduceCtorEq]; rfl) (fun hc => ?_) (fun hc => ?_))
  · cases hc
  clear hc
  ((repeat refine PWp.seq ?_); refine PWp.skip ?_)
  ((repeat refine PWp.seq ?_); refine PWp.region TT (by rfl) (fun K hK => ?_); simp only [push_cast, seval, Nat.reduceEqDiff, Nat.reduceLeDiff, reduceCtorEq])
  ((repeat refine sk ?_); refine PCall.use (ref09_Single (norL s) (by omega) (by omega)) [] rfl (by simp [push_cast]) (by simp) (by simp [push_cast]) (by simp [push_cast]) (by simp [push_cast]) (by simp [push_cast]) ?_)
  rintro _ _ ⟨rfl, rfl⟩
  (simp only [push_cast, seval, Nat.reduceEqDiff, Nat.reduceLeDiff, reduceCtorEq]; (repeat refine sk ?_); refine hK _ ?_; clear hK K)
  generalize sgl (norL s) = M at *
  generalize norL s = M0 at *
  ((repeat refine PWp.seq ?_); refine PWp.region TT (by rfl) (fun K hK => ?_); simp only [push_cast, seval, Nat.reduceEqDiff, Nat.reduceLeDiff, reduceCtorEq]; (repeat refine sk ?_); refine hK _ ?_; clear hK K)
  refine PWp.gh (Gh.accm 7 69 (by rfl) (by rfl)) ?_
  ((repeat refine PWp.seq ?_); refine PWp.region TT (by rfl) (fun K hK => ?_); simp only [push_cast, seval, Nat.reduceEqDiff, Nat.reduceLeDiff, reduceCtorEq]; (repeat refine sk ?_); refine hK _ ?_; clear hK K)
  ((repeat refine PWp.seq ?_); refine PWp.region TT (by rfl) (fun K hK => ?_); simp only [push_cast, seval, Nat.reduceEqDiff, Nat.reduceLeDiff, reduceCtorEq]; (repeat refine sk ?_); refine hK _ ?_; clear hK K)
  refine PWp.gh (st' := ⟨[(6, iE M), (7, .mrow 0), (8, iI 0), (9, iI 0)], [(0, .mrow 47 3 [])], 1⟩) (Gh.leR [70] (by simp [push_cast, -List.getD_eq_getElem?_getD]; try decide)) ?_
  ((repeat refine PWp.seq ?_); refine PWp.block ?_)
  refine PWp.loop (fun c st => ∃ k : Nat, c = M.length - k ∧ k ≤ M.length ∧
    st = ⟨[(6, iE M), (7, .mrow 0), (8, iI (rQ M k).a), (9, iI k)], [(0, .mrow 47 3 ((rQ M k).o.map encS))], 1⟩) _ _ ⟨0, rfl, Nat.zero_le _, rfl⟩ (Gh.le (by simp [push_cast, -List.getD_eq_getElem?_getD, rQ]) (by simp)) ?_
  rintro c st ⟨k, rfl, hk, rfl⟩
  ((repeat refine PWp.seq ?_); refine PWp.region TT (by rfl) (fun K hK => ?_); simp only [push_cast, seval, Nat.reduceEqDiff, Nat.reduceLeDiff, reduceCtorEq]; (repeat refine sk ?_); refine hK _ ?_; clear hK K)
  ((repeat refine PWp.seq ?_); refine PWp.cond (by simp only [push_cast, seval, Nat.reduceEqDiff, Nat.reduceLeDiff, reduceCtorEq]; rfl) (fun hc => ?_) (fun hc => ?_))
  · have hlt : k < M.length := by have := of_decide_eq_true hc; omega
    clear hc
    have hg : (M.map encE).getD k .any = encE (M.getD k default) := getD_map hlt
    have hgp : (M.map encE).getD (k - 1) .any = encE (M.getD (k - 1) default) := getD_map (by omega)
    obtain ⟨b1, b2, b3, b4⟩ := rQ_b hso k hk
    have hff := rQ_f hk
    have h1 := rQ_succ hlt
    have hxl := hso _ (getD_mem hlt)
    generalize M.getD k default = x at *
    generalize M.getD (k - 1) default = xp at *
    generalize rQ M k = q at *
    obtain ⟨o1, o2⟩ := opn_len q
    have o3 := o2 b4
    have hyb := fewS_opn b1
    have hb1l := b1.1
    have hx1 := one_get hxl
    have hgl : (x.l.map encL).getD 0 .any = encL (x.l.getD 0 default) := getD_map (by omega)
    generalize x.l.getD 0 default = z at *
    have w1 := wrap64_id (n := q.a + 1) (by omega) (by omega)
    have w2 := wrap64_id (n := (k : Int) + 1) (by omega) (by omega)
    ((repeat refine PWp.seq ?_); refine PWp.skip ?_)
    ((repeat refine PWp.seq ?_); refine PWp.block ?_)
    by_cases hd1 : x.d = 1
    · have e1 : st1 q x = ⟨q.o, q.a + 1, true⟩ := by
        unfold st1
        rw [if_pos hd1, hxl]
        rfl
      rw [e1] at h1
      ((repeat refine PWp.seq ?_); refine PWp.region TT (by rfl) (fun K hK => ?_); simp only [push_cast, seval, Nat.reduceEqDiff, Nat.reduceLeDiff, reduceCtorEq, hg, hd1]; (repeat refine sk ?_); refine hK _ ?_; clear hK K)
      ((repeat refine PWp.seq ?_); refine PWp.cond (by simp only [push_cast, seval, Nat.reduceEqDiff, Nat.reduceLeDiff, reduceCtorEq]; rfl) (fun hc => ?_) (fun hc => ?_))
      · ((repeat refine PWp.seq ?_); refine PWp.region TT (by rfl) (fun K hK => ?_); simp only [push_cast, seval, Nat.reduceEqDiff, Nat.reduceLeDiff, reduceCtorEq, w1]; (repeat refine sk ?_); refine hK _ ?_; clear hK K)
        (repeat refine PWp.seq ?_); refine PWp.exit (iteT rfl ?_)
        ((repeat refine PWp.seq ?_); refine PWp.region TT (by rfl) (fun K hK => ?_); simp only [push_cast, seval, Nat.reduceEqDiff, Nat.reduceLeDiff, reduceCtorEq, w2]; (repeat refine sk ?_); refine hK _ ?_; clear hK K)
        refine ⟨_, _, ?_, ⟨k + 1, rfl, by omega, rfl⟩, Gh.le (by simp [push_cast, -List.getD_eq_getElem?_getD, h1]) (by simp)⟩
        omega
      · cases hc
    have hb1 : (x.d == 1) = false := beq_eq_false_iff_ne.2 hd1
    ((repeat refine PWp.seq ?_); refine PWp.region TT (by rfl) (fun K hK => ?_); simp only [push_cast, seval, Nat.reduceEqDiff, Nat.reduceLeDiff, reduceCtorEq, hg, hb1]; (repeat refine sk ?_); refine hK _ ?_; clear hK K)
    ((repeat refine PWp.seq ?_); refine PWp.cond (by simp only [push_cast, seval, Nat.reduceEqDiff, Nat.reduceLeDiff, reduceCtorEq]; rfl) (fun hc => ?_) (fun hc => ?_))
    · cases hc
    ((repeat refine PWp.seq ?_); refine PWp.skip ?_)
    refine PJoin ⟨[(6, iE M), (7, .mrow 0), (8, iI q.a), (9, iI k)], [(0, .mrow 47 3 ((opn q).map encS))], 1⟩ ?_ ?_
    · have hopen : (((k : Int) == 0) || (xp.d == 1)) = q.f := by
        rw [hff]
        have e1 : ((k : Int) == 0) = decide (k = 0) := by
          rw [Bool.eq_iff_iff, beq_iff_eq, decide_eq_true_eq]
          omega
        rw [e1]
        rfl
      unfold opn
      by_cases hk0 : k = 0
      · subst hk0
        have hqf : q.f = true := by rw [hff]; rfl
        rw [if_pos hqf]
        ((repeat refine PWp.seq ?_); refine PWp.region TT (by rfl) (fun K hK => ?_); simp only [push_cast, seval, Nat.reduceEqDiff, Nat.reduceLeDiff, reduceCtorEq, hg, show IntKind.i64.wrap (-1) = -1 from wrap64_id (by omega) (by omega), show (-1 : Int).toNat = 0 from rfl]; (repeat refine sk ?_); refine hK _ ?_; clear hK K)
        ((repeat refine PWp.seq ?_); refine PWp.cond (by simp only [push_cast, seval, Nat.reduceEqDiff, Nat.reduceLeDiff, reduceCtorEq]; rfl) (fun hc => ?_) (fun hc => ?_))
        · ((repeat refine PWp.seq ?_); refine PWp.region TT (by rfl) (fun K hK => ?_); simp only [push_cast, seval, Nat.reduceEqDiff, Nat.reduceLeDiff, reduceCtorEq]; (repeat refine sk ?_); refine hK _ ?_; clear hK K)
          refine ⟨rfl, Gh.trans (Gh.mleqLast 1 (encS ⟨q.a, [], []⟩) (by rfl) (by simp [encS, IV.leq, IV.leqL])) ?_⟩
          exact Gh.leR [1] (by simp [push_cast, -List.getD_eq_getElem?_getD, encS]; try decide)
        · cases hc
      · have hkb : ((k : Int) == 0) = false := beq_eq_false_iff_ne.2 (by omega)
        have t1 : ((k : Int) - 1).toNat = k - 1 := by omega
        rw [hkb, Bool.false_or] at hopen
        ((repeat refine PWp.seq ?_); refine PWp.region TT (by rfl) (fun K hK => ?_); simp only [push_cast, seval, Nat.reduceEqDiff, Nat.reduceLeDiff, reduceCtorEq, hkb, t1, hgp, wrap64_id (n := (k : Int) - 1) (by omega) (by omega)]; (repeat refine sk ?_); refine hK _ ?_; clear hK K)
        ((repeat refine PWp.seq ?_); refine PWp.cond (by simp only [push_cast, seval, Nat.reduceEqDiff, Nat.reduceLeDiff, reduceCtorEq]; rfl) (fun hc => ?_) (fun hc => ?_))
        · rw [← hopen, hc, if_pos rfl]
          ((repeat refine PWp.seq ?_); refine PWp.region TT (by rfl) (fun K hK => ?_); simp only [push_cast, seval, Nat.reduceEqDiff, Nat.reduceLeDiff, reduceCtorEq]; (repeat refine sk ?_); refine hK _ ?_; clear hK K)
          refine ⟨rfl, Gh.trans (Gh.mleqLast 1 (encS ⟨q.a, [], []⟩) (by rfl) (by simp [encS, IV.leq, IV.leqL])) ?_⟩
          exact Gh.leR [1] (by simp [push_cast, -List.getD_eq_getElem?_getD, encS]; try decide)
        · rw [← hopen, hc, if_neg (by decide)]
          ((repeat refine PWp.seq ?_); refine PWp.skip ?_)
          exact ⟨rfl, Gh.le (by simp [push_cast, -List.getD_eq_getElem?_getD]) (by simp)⟩
    rcases List.eq_nil_or_concat (opn q) with h0 | ⟨A, y, hA⟩
    · exact absurd h0 o3
    have hA' : opn q = A ++ [y] := by simpa using hA
    clear hA
    rw [hA'] at o1 hyb ⊢
    have hAl : A.length + 1 ≤ q.o.length + 1 := by simpa using o1
    have hy := hyb.2 y (by simp)
    have hml : (A.map encS).length = A.length := List.length_map ..
    have w3 : IntKind.i64.wrap ((A.length : Int) + 1 - 1) = (A.length : Int) := by rw [wrap64_id (by omega) (by omega)]; omega
    have g1 := fun (x y : IV) => getD_last (L := A.map encS) (x := x) (d := y) hml
    have g2 := fun (x y : IV) => set_last (L := A.map encS) (x := x) (y := y) hml
    ((repeat refine PWp.seq ?_); refine PWp.region TT (by rfl) (fun K hK => ?_); simp only [push_cast, seval, Nat.reduceEqDiff, Nat.reduceLeDiff, reduceCtorEq, List.map_append, w3, g1]; (repeat refine sk ?_); refine hK _ ?_; clear hK K)
    by_cases hd3 : x.d = 3
    · have e1 : st1 q x = ⟨A ++ [⟨y.at_, y.out, y.in_ ++ [z]⟩], q.a, false⟩ := by
        unfold st1
        rw [if_neg hd1, if_pos hd3, hA', addIn_last, hx1]
      rw [e1] at h1
      refine PJoin ⟨[(6, iE M), (7, .mrow 0), (8, iI q.a), (9, iI k), (10, .bptr 1 0)], [(0, .mrow 47 3 (A.map encS ++ [encS y])), (1, .box 47 [iI y.at_, iL y.out, iL (y.in_ ++ [z])])], 2⟩ ?_ ?_
      · ((repeat refine PWp.seq ?_); refine PWp.region TT (by rfl) (fun K hK => ?_); simp only [push_cast, seval, Nat.reduceEqDiff, Nat.reduceLeDiff, reduceCtorEq, hg, hd3]; (repeat refine sk ?_); refine hK _ ?_; clear hK K)
        ((repeat refine PWp.seq ?_); refine PWp.cond (by simp only [push_cast, seval, Nat.reduceEqDiff, Nat.reduceLeDiff, reduceCtorEq]; rfl) (fun hc => ?_) (fun hc => ?_))
        · ((repeat refine PWp.seq ?_); refine PWp.drawT TT (by kernel_rfl) [] (.q 1 (.q 4 (.q 5 (.q 6 (.q 7 (.q 8 (.q 9 (.q 10 (.alt 0 (.alt 2 (.alt 3 (.x 11 (.x 12 (.q 13 (.x 14 .nil)))) (.x 11 (.x 3 (.x 12 (.q 13 (.x 14 .nil)))))) (.x 11 (.x 2 (.x 3 (.x 12 (.q 13 (.x 14 .nil))))))) (.alt 2 (.alt 0 (.alt 3 (.x 11 (.x 12 (.q 13 (.x 14 .nil)))) (.x 11 (.x 3 (.x 12 (.q 13 (.x 14 .nil)))))) (.x 11 (.x 0 (.x 3 (.x 12 (.q 13 (.x 14 .nil))))))) (.x 11 (.alt 0 (.x 2 (.x 3 (.x 12 (.q 13 (.x 14 .nil))))) (.x 2 (.x 0 (.x 3 (.x 12 (.q 13 (.x 14 .nil)))))))))))))))))) (by rfl) (by kernel_rfl) (by rfl) (by simp) (fun K hK => ?_); simp only [push_cast, seval, Nat.reduceEqDiff, Nat.reduceLeDiff, reduceCtorEq, hg, hgl, lensLn y.in_])
          repeat' (first | (refine hK _ ?_; exact ⟨rfl, Gh.le (by simp [push_cast, -List.getD_eq_getElem?_getD]) (by simp)⟩) | refine sk ?_ | refine ⟨?_, ?_⟩)
        · cases hc
      ((repeat refine PWp.seq ?_); refine PWp.region TT (by rfl) (fun K hK => ?_); simp only [push_cast, seval, Nat.reduceEqDiff, Nat.reduceLeDiff, reduceCtorEq, w3, g1, g2]; (repeat refine sk ?_); refine hK _ ?_; clear hK K)
      ((repeat refine PWp.seq ?_); refine PWp.region TT (by rfl) (fun K hK => ?_); simp only [push_cast, seval, Nat.reduceEqDiff, Nat.reduceLeDiff, reduceCtorEq, w2]; (repeat refine sk ?_); refine hK _ ?_; clear hK K)
      refine ⟨_, _, ?_, ⟨k + 1, rfl, by omega, rfl⟩, Gh.le (by simp [push_cast, -List.getD_eq_getElem?_getD, h1]) (by simp)⟩
      omega
    · have e1 : st1 q x = ⟨A ++ [⟨y.at_, y.out ++ [z], y.in_⟩], q.a + 1, false⟩ := by
        unfold st1
        rw [if_neg hd1, if_neg hd3, hA', addOut_last, hx1]
        rfl
      rw [e1] at h1
      have hb3 : (x.d == 3) = false := beq_eq_false_iff_ne.2 hd3
      refine PJoin ⟨[(6, iE M), (7, .mrow 0), (8, iI (q.a + 1)), (9, iI k), (10, .bptr 1 0)], [(0, .mrow 47 3 (A.map encS ++ [encS y])), (1, .box 47 [iI y.at_, iL (y.out ++ [z]), iL y.in_])], 2⟩ ?_ ?_
      · ((repeat refine PWp.seq ?_); refine PWp.region TT (by rfl) (fun K hK => ?_); simp only [push_cast, seval, Nat.reduceEqDiff, Nat.reduceLeDiff, reduceCtorEq, hg, hb3]; (repeat refine sk ?_); refine hK _ ?_; clear hK K)
        ((repeat refine PWp.seq ?_); refine PWp.cond (by simp only [push_cast, seval, Nat.reduceEqDiff, Nat.reduceLeDiff, reduceCtorEq]; rfl) (fun hc => ?_) (fun hc => ?_))
        · cases hc
        refine PJoin ⟨[(6, iE M), (7, .mrow 0), (8, iI q.a), (9, iI k), (10, .bptr 1 0)], [(0, .mrow 47 3 (A.map encS ++ [encS y])), (1, .box 47 [iI y.at_, iL (y.out ++ [z]), iL y.in_])], 2⟩ ?_ ?_
        · ((repeat refine PWp.seq ?_); refine PWp.drawT TT (by kernel_rfl) [] (.q 1 (.q 4 (.q 5 (.q 6 (.q 7 (.q 8 (.q 9 (.q 10 (.alt 0 (.alt 2 (.alt 3 (.x 11 (.x 12 (.q 13 (.x 14 .nil)))) (.x 11 (.x 3 (.x 12 (.q 13 (.x 14 .nil)))))) (.x 11 (.x 2 (.x 3 (.x 12 (.q 13 (.x 14 .nil))))))) (.alt 2 (.alt 0 (.alt 3 (.x 11 (.x 12 (.q 13 (.x 14 .nil)))) (.x 11 (.x 3 (.x 12 (.q 13 (.x 14 .nil)))))) (.x 11 (.x 0 (.x 3 (.x 12 (.q 13 (.x 14 .nil))))))) (.x 11 (.alt 0 (.x 2 (.x 3 (.x 12 (.q 13 (.x 14 .nil))))) (.x 2 (.x 0 (.x 3 (.x 12 (.q 13 (.x 14 .nil)))))))))))))))))) (by rfl) (by kernel_rfl) (by rfl) (by simp) (fun K hK => ?_); simp only [push_cast, seval, Nat.reduceEqDiff, Nat.reduceLeDiff, reduceCtorEq, hg, hgl, lensLn y.out])
          repeat' (first | (refine hK _ ?_; exact ⟨rfl, Gh.le (by simp [push_cast, -List.getD_eq_getElem?_getD]) (by simp)⟩) | refine sk ?_ | refine ⟨?_, ?_⟩)
        ((repeat refine PWp.seq ?_); refine PWp.region TT (by rfl) (fun K hK => ?_); simp only [push_cast, seval, Nat.reduceEqDiff, Nat.reduceLeDiff, reduceCtorEq, w1]; (repeat refine sk ?_); refine hK _ ?_; clear hK K)
        exact ⟨rfl, Gh.le (by simp [push_cast, -List.getD_eq_getElem?_getD]) (by simp)⟩
      ((repeat refine PWp.seq ?_); refine PWp.region TT (by rfl) (fun K hK => ?_); simp only [push_cast, seval, Nat.reduceEqDiff, Nat.reduceLeDiff, reduceCtorEq, w3, g1, g2]; (repeat refine sk ?_); refine hK _ ?_; clear hK K)
      ((repeat refine PWp.seq ?_); refine PWp.region TT (by rfl) (fun K hK => ?_); simp only [push_cast, seval, Nat.reduceEqDiff, Nat.reduceLeDiff, reduceCtorEq, w2]; (repeat refine sk ?_); refine hK _ ?_; clear hK K)
      refine ⟨_, _, ?_, ⟨k + 1, rfl, by omega, rfl⟩, Gh.le (by simp [push_cast, -List.getD_eq_getElem?_getD, h1]) (by simp)⟩
      omega
  · have hk' : k = M.length := by have := of_decide_eq_false hc; omega
    subst hk'
    (repeat refine PWp.seq ?_); refine PWp.exit (iteT rfl ?_)
    rw [← hof]
    refine PWp.gh (Gh.freeze 0 (by rfl)) ?_
    ((repeat refine PWp.seq ?_); refine PWp.region TT (by rfl) (fun K hK => ?_); simp only [push_cast, seval, Nat.reduceEqDiff, Nat.reduceLeDiff, reduceCtorEq]; (repeat refine sk ?_); refine hK _ ?_; clear hK K)
    ((repeat refine PWp.seq ?_); refine PWp.ret ?_)
    refine ⟨.inr rfl, by omega, _, [], ?_, rfl, rfl⟩
    rw [h]
    (simp [push_cast, -List.getD_eq_getElem?_getD])
end Go.Proofs.Ytjjgnopebokfoaa
namespace Go.Proofs.Ytjjgnopebokfoaa
open Go.PL
set_option maxRecDepth 100000
set_option linter.unusedSimpArgs false
set_option linter.unusedVariables false
theorem ofL_sm (s : List Ed) : smP (ofL s) ∧ smP (invL (ofL s)) := by
  by_cases h : chkE s = 0
  · obtain ⟨c1, c2, c3⟩ := chk_zero h
    have ht := (norm_sides h).2.2
    have hn := norm_nf s
    obtain ⟨g1, g2, g3⟩ := sides_sw _ _ _ hn
    have hi := inv_of (norL s) false false none 0 0 hn ⟨rfl, rfl⟩
    refine ⟨of_smP hn (by omega), ?_⟩
    rw [invL_eq]
    unfold ofL
    rw [hi]
    exact of_smP (nf_sw _ _ _ hn) (by omega)
  · have h0 : ofL s = [] := by
      unfold ofL
      rw [show norL s = [] from if_neg h]
      rfl
    rw [h0]
    exact ⟨⟨by simp, by simp⟩, ⟨by simp [invL, invN], by simp [invL, invN]⟩⟩
theorem ofL_laws {s : List Ed} (h : chkE s = 0) (ha : (sidA s).length ≤ 100) (hb : (sidB s).length ≤ 100) :
    apE (ofL s) (sidA s) = 0 ∧ apR (ofL s) (sidA s) = sidB s ∧ apE (invL (ofL s)) (sidB s) = 0 ∧ apR (invL (ofL s)) (sidB s) = sidA s ∧ growL (ofL s) = ((sidB s).length : Int) - (sidA s).length := by
  obtain ⟨n1, n2, n3⟩ := norm_sides h
  have hn := norm_nf s
  have e1 : sidA s = sA (norL s) := by rw [n1]; exact if_pos h
  have e2 : sidB s = sB (norL s) := by rw [n2]; exact if_pos h
  rw [e1] at ha ⊢
  rw [e2] at hb ⊢
  obtain ⟨g1, g2, g3⟩ := sides_sw _ _ _ hn
  have hi := inv_of (norL s) false false none 0 0 hn ⟨rfl, rfl⟩
  have hiv : invL (ofL s) = ofP none 0 (sw (norL s)) := by
    rw [invL_eq]
    unfold ofL
    rw [hi]
    rfl
  obtain ⟨h2, h3, h4, h5, h6⟩ := of_sums (norL s) false false none 0 hn ⟨rfl, rfl⟩
  obtain ⟨k2, k3, k4, k5, k6⟩ := of_sums (sw (norL s)) false false none 0 (nf_sw _ _ _ hn) ⟨rfl, rfl⟩
  simp only [pO, pI] at h2 h3 h5 k2 k3
  rw [g1] at k2
  rw [g2] at k3
  obtain ⟨a1, a2⟩ := of_apply hn (by omega) (by omega) (by omega)
  obtain ⟨b1, b2⟩ := of_apply (nf_sw _ _ _ hn) (by rw [g1]; omega) (by rw [g2]; omega) (by omega)
  rw [g1] at b1 b2
  rw [g2] at b2
  rw [hiv]
  refine ⟨a1, a2, b1, b2, ?_⟩
  unfold ofL
  rw [h5]
  simp
set_option maxHeartbeats 2000000 in
theorem ShiftOf_walk (s : List Ed) (hs : bigE s) : PC Try.prog 7 [iE s] [] 0 900 (fun t obs => t = iB true ∧ obs = []) := by
  obtain ⟨sm1, sm2⟩ := ofL_sm s
  have hsame : decide (ofL s = ofL s) = true := decide_eq_true rfl
  refine PC.body [2] Try.func7 rfl (by rfl) (Nat.le_of_ble_eq_true (by rfl)) rfl ?_; simp only [enumA]
  ((repeat refine PWp.seq ?_); refine PWp.region TT (by rfl) (fun K hK => ?_); simp only [push_cast, seval, Nat.reduceEqDiff, Nat.reduceLeDiff, reduceCtorEq]; (repeat refine sk ?_); refine hK _ ?_; clear hK K)
  ((repeat refine PWp.seq ?_); refine PWp.region TT (by rfl) (fun K hK => ?_); simp only [push_cast, seval, Nat.reduceEqDiff, Nat.reduceLeDiff, reduceCtorEq])
  ((repeat refine sk ?_); refine PCall.use (shift_Of s hs) [] rfl (by simp [push_cast]) (by simp) (by simp [push_cast]) (by simp [push_cast]) (by simp [push_cast]) (by simp [push_cast]) ?_)
  rintro _ _ ⟨rfl, rfl⟩
  (simp only [push_cast, seval, Nat.reduceEqDiff, Nat.reduceLeDiff, reduceCtorEq]; (repeat refine sk ?_); refine hK _ ?_; clear hK K)
  ((repeat refine PWp.seq ?_); refine PWp.region TT (by rfl) (fun K hK => ?_); simp only [push_cast, seval, Nat.reduceEqDiff, Nat.reduceLeDiff, reduceCtorEq])
  ((repeat refine sk ?_); refine PCall.use (ref38_Of s hs) [] rfl (by simp [push_cast]) (by simp) (by simp [push_cast]) (by simp [push_cast]) (by simp [push_cast]) (by simp [push_cast]) ?_)
  rintro _ _ ⟨rfl, rfl⟩
  (simp only [push_cast, seval, Nat.reduceEqDiff, Nat.reduceLeDiff, reduceCtorEq]; (repeat refine sk ?_); refine hK _ ?_; clear hK K)
  ((repeat refine PWp.seq ?_); refine PWp.region TT (by rfl) (fun K hK => ?_); simp only [push_cast, seval, Nat.reduceEqDiff, Nat.reduceLeDiff, reduceCtorEq])
  ((repeat refine sk ?_); refine PCall.use (ref08_Sides s hs) [] rfl (by simp [push_cast]) (by simp) (by simp [push_cast]) (by simp [push_cast]) (by simp [push_cast]) (by simp [push_cast]) ?_)
  rintro _ _ ⟨rfl, rfl⟩
  (simp only [push_cast, seval, Nat.reduceEqDiff, Nat.reduceLeDiff, reduceCtorEq]; (repeat refine sk ?_); refine hK _ ?_; clear hK K)
  ((repeat refine PWp.seq ?_); refine PWp.region TT (by rfl) (fun K hK => ?_); simp only [push_cast, seval, Nat.reduceEqDiff, Nat.reduceLeDiff, reduceCtorEq])
  ((repeat refine sk ?_); refine PCall.use (ref38_Same (ofL s) (ofL s) sm1 (by have := sm1.1; omega)) [] rfl (by simp [push_cast]) (by simp) (by simp [push_cast]) (by simp [push_cast]) (by simp [push_cast]) (by simp [push_cast]) ?_)
  rintro _ _ ⟨rfl, rfl⟩
  rw [hsame]
  (simp only [push_cast, seval, Nat.reduceEqDiff, Nat.reduceLeDiff, reduceCtorEq, bne_self_eq_false]; (repeat refine sk ?_); refine hK _ ?_; clear hK K)
  ((repeat refine PWp.seq ?_); refine PWp.cond (by simp only [push_cast, seval, Nat.reduceEqDiff, Nat.reduceLeDiff, reduceCtorEq]; rfl) (fun hc => ?_) (fun hc => ?_))
  · cases hc
  clear hc
  ((repeat refine PWp.seq ?_); refine PWp.skip ?_)
  ((repeat refine PWp.seq ?_); refine PWp.region TT (by rfl) (fun K hK => ?_); simp only [push_cast, seval, Nat.reduceEqDiff, Nat.reduceLeDiff, reduceCtorEq]; (repeat refine sk ?_); refine hK _ ?_; clear hK K)
  ((repeat refine PWp.seq ?_); refine PWp.cond (by simp only [push_cast, seval, Nat.reduceEqDiff, Nat.reduceLeDiff, reduceCtorEq]; rfl) (fun hc => ?_) (fun hc => ?_))
  · clear hc
    ((repeat refine PWp.seq ?_); refine PWp.region TT (by rfl) (fun K hK => ?_); simp only [push_cast, seval, Nat.reduceEqDiff, Nat.reduceLeDiff, reduceCtorEq])
    ((repeat refine sk ?_); refine PCall.use (live38) [] rfl (by simp [push_cast]) (by simp) (by simp [push_cast]) (by simp [push_cast]) (by simp [push_cast]) (by simp [push_cast]) ?_)
    rintro _ _ ⟨rfl, rfl⟩
    (simp only [push_cast, seval, Nat.reduceEqDiff, Nat.reduceLeDiff, reduceCtorEq]; (repeat refine sk ?_); refine hK _ ?_; clear hK K)
    ((repeat refine PWp.seq ?_); refine PWp.ret ?_)
    refine ⟨.inr rfl, by omega, _, [], ?_, rfl, rfl⟩
    (simp [push_cast, -List.getD_eq_getElem?_getD])
  · have hh : chkE s = 0 ∧ (sidA s).length ≤ 100 ∧ (sidB s).length ≤ 100 := by
      simp only [Bool.or_eq_true, Bool.and_eq_true, Bool.not_eq_true', Bool.not_eq_false', Bool.or_eq_false_iff, Bool.and_eq_false_iff, decide_eq_true_eq, decide_eq_false_iff_not, beq_iff_eq, beq_eq_false_iff_ne, bne_iff_ne, bne_eq_false_iff_eq, ne_eq, Classical.not_not, Int.not_lt, Int.not_le, ge_iff_le, gt_iff_lt] at hc
      omega
    obtain ⟨h0, ha, hb⟩ := hh
    obtain ⟨l1, l2, l3, l4, l5⟩ := ofL_laws h0 ha hb
    have hs1 : decide (sidB s = sidB s) = true := decide_eq_true rfl
    have hs2 : decide (sidA s = sidA s) = true := decide_eq_true rfl
    clear hc
    ((repeat refine PWp.seq ?_); refine PWp.skip ?_)
    ((repeat refine PWp.seq ?_); refine PWp.region TT (by rfl) (fun K hK => ?_); simp only [push_cast, seval, Nat.reduceEqDiff, Nat.reduceLeDiff, reduceCtorEq])
    ((repeat refine sk ?_); refine PCall.use (shift_Apply (ofL s) (sidA s) sm1) [] rfl (by simp [push_cast]) (by simp) (by simp [push_cast]) (by simp [push_cast]) (by simp [push_cast]) (by simp [push_cast]) ?_)
    rintro _ _ ⟨rfl, rfl⟩
    rw [l1, l2]
    (simp only [push_cast, seval, Nat.reduceEqDiff, Nat.reduceLeDiff, reduceCtorEq]; (repeat refine sk ?_); refine hK _ ?_; clear hK K)
    ((repeat refine PWp.seq ?_); refine PWp.region TT (by rfl) (fun K hK => ?_); simp only [push_cast, seval, Nat.reduceEqDiff, Nat.reduceLeDiff, reduceCtorEq])
    ((repeat refine sk ?_); refine PCall.use (shift_Invert (ofL s) sm1) [] rfl (by simp [push_cast]) (by simp) (by simp [push_cast]) (by simp [push_cast]) (by simp [push_cast]) (by simp [push_cast]) ?_)
    rintro _ _ ⟨rfl, rfl⟩
    (simp only [push_cast, seval, Nat.reduceEqDiff, Nat.reduceLeDiff, reduceCtorEq])
    ((repeat refine sk ?_); refine PCall.use (shift_Apply (invL (ofL s)) (sidB s) sm2) [] rfl (by simp [push_cast]) (by simp) (by simp [push_cast]) (by simp [push_cast]) (by simp [push_cast]) (by simp [push_cast]) ?_)
    rintro _ _ ⟨rfl, rfl⟩
    rw [l3, l4]
    (simp only [push_cast, seval, Nat.reduceEqDiff, Nat.reduceLeDiff, reduceCtorEq]; (repeat refine sk ?_); refine hK _ ?_; clear hK K)
    ((repeat refine PWp.seq ?_); refine PWp.region TT (by rfl) (fun K hK => ?_); simp only [push_cast, seval, Nat.reduceEqDiff, Nat.reduceLeDiff, reduceCtorEq])
    ((repeat refine sk ?_); refine PCall.use (live38) [] rfl (by simp [push_cast]) (by simp) (by simp [push_cast]) (by simp [push_cast]) (by simp [push_cast]) (by simp [push_cast]) ?_)
    rintro _ _ ⟨rfl, rfl⟩
    (simp only [push_cast, seval, Nat.reduceEqDiff, Nat.reduceLeDiff, reduceCtorEq])
    ((repeat refine sk ?_); refine PCall.use (ref01_Same (sidB s) (sidB s) (by omega)) [] rfl (by simp [push_cast]) (by simp) (by simp [push_cast]) (by simp [push_cast]) (by simp [push_cast]) (by simp [push_cast]) ?_)
    rintro _ _ ⟨rfl, rfl⟩
    rw [hs1]
    (simp only [push_cast, seval, Nat.reduceEqDiff, Nat.reduceLeDiff, reduceCtorEq])
    ((repeat refine sk ?_); refine PCall.use (ref01_Same (sidA s) (sidA s) (by omega)) [] rfl (by simp [push_cast]) (by simp) (by simp [push_cast]) (by simp [push_cast]) (by simp [push_cast]) (by simp [push_cast]) ?_)
    rintro _ _ ⟨rfl, rfl⟩
    rw [hs2]
    (simp only [push_cast, seval, Nat.reduceEqDiff, Nat.reduceLeDiff, reduceCtorEq])
    ((repeat refine sk ?_); refine PCall.use (shift_Grows (ofL s) sm1) [] rfl (by simp [push_cast]) (by simp) (by simp [push_cast]) (by simp [push_cast]) (by simp [push_cast]) (by simp [push_cast]) ?_)
    rintro _ _ ⟨rfl, rfl⟩
    rw [l5]
    (simp only [push_cast, seval, Nat.reduceEqDiff, Nat.reduceLeDiff, reduceCtorEq, beq_self_eq_true, wrap64_id (n := ((sidB s).length : Int) - (sidA s).length) (by omega) (by omega)]; (repeat refine sk ?_); refine hK _ ?_; clear hK K)
    ((repeat refine PWp.seq ?_); refine PWp.ret ?_)
    refine ⟨.inr rfl, by omega, _, [], ?_, rfl, rfl⟩
    (simp [push_cast, -List.getD_eq_getElem?_getD])
end Go.Proofs.Ytjjgnopebokfoaa
