/- The document's Lines; near; numbers the same; a set of places. -/
import Derived.Test.YtjlnialglahdoaaH15
import Derived.Test.YtjlnialglahdoaaH17
namespace Go.Proofs.Ytjlnialglahdoaa
open Go.PL
set_option maxRecDepth 100000
set_option linter.unusedSimpArgs false
set_option linter.unusedVariables false
theorem ref34_Lines (l : List Ln) (p : List UInt8) (hl : l.length ≤ 1000) (ht : okL l) (hp : p.length ≤ 9223372036854775807) : PC Try.prog 20 [iL l, iS p] [] 0 20
    (fun t obs => t = .tup [iN (plA p l), iI (parE p)] ∧ obs = []) := by
  refine PC.body [4, 5] Try.func20 rfl (by rfl) (Nat.le_of_ble_eq_true (by rfl)) rfl ?_; simp only [enumA]
  ((repeat refine PWp.seq ?_); refine PWp.region TT (by rfl) (fun K hK => ?_); simp only [push_cast, seval, Nat.reduceEqDiff, Nat.reduceLeDiff, reduceCtorEq]; (repeat refine sk ?_); refine hK _ ?_; clear hK K)
  ((repeat refine PWp.seq ?_); refine PWp.region TT (by rfl) (fun K hK => ?_); simp only [push_cast, seval, Nat.reduceEqDiff, Nat.reduceLeDiff, reduceCtorEq])
  ((repeat refine sk ?_); refine PCall.use (ref_Parse p hp) [] rfl (by simp [push_cast]) (by simp) (by simp [push_cast]) (by simp [push_cast]) (by simp [push_cast]) (by simp [push_cast]) ?_)
  rintro _ _ ⟨rfl, rfl⟩
  (simp only [push_cast, seval, Nat.reduceEqDiff, Nat.reduceLeDiff, reduceCtorEq]; (repeat refine sk ?_); refine hK _ ?_; clear hK K)
  by_cases he : parE p = 0
  · have hb : (parE p != 0) = false := by rw [he]; rfl
    have hpl : plA p l = liK p l l.length := if_pos he
    ((repeat refine PWp.seq ?_); refine PWp.region TT (by rfl) (fun K hK => ?_); simp only [push_cast, seval, Nat.reduceEqDiff, Nat.reduceLeDiff, reduceCtorEq, hb]; (repeat refine sk ?_); refine hK _ ?_; clear hK K)
    ((repeat refine PWp.seq ?_); refine PWp.cond (by simp only [push_cast, seval, Nat.reduceEqDiff, Nat.reduceLeDiff, reduceCtorEq]; rfl) (fun hc => ?_) (fun hc => ?_))
    · cases hc
    · clear hc
      ((repeat refine PWp.seq ?_); refine PWp.skip ?_)
      ((repeat refine PWp.seq ?_); refine PWp.region TT (by rfl) (fun K hK => ?_); simp only [push_cast, seval, Nat.reduceEqDiff, Nat.reduceLeDiff, reduceCtorEq]; (repeat refine sk ?_); refine hK _ ?_; clear hK K)
      ((repeat refine PWp.seq ?_); refine PWp.region TT (by rfl) (fun K hK => ?_); simp only [push_cast, seval, Nat.reduceEqDiff, Nat.reduceLeDiff, reduceCtorEq]; (repeat refine sk ?_); refine hK _ ?_; clear hK K)
      refine PWp.gh (st' := ⟨[(1, iS p), (8, .acc 0 1 []), (0, iL l), (9, iI 0)], [(0, .row 3 1)], 1⟩) (Gh.leR [9] (by simp [push_cast, -List.getD_eq_getElem?_getD]; try decide)) ?_
      ((repeat refine PWp.seq ?_); refine PWp.block ?_)
      refine PWp.loop (fun d st => ∃ k : Nat, d = l.length - k ∧ k ≤ l.length ∧
        st = ⟨[(1, iS p), (8, .acc 0 1 ((liK p l k).map encI)), (0, iL l), (9, iI k)], [(0, .row 3 1)], 1⟩) _ _ ⟨0, rfl, Nat.zero_le _, rfl⟩ (Gh.le (by simp [push_cast, -List.getD_eq_getElem?_getD, show liK p l 0 = [] from rfl]) (by simp)) ?_
      rintro d st ⟨k, rfl, hk, rfl⟩
      ((repeat refine PWp.seq ?_); refine PWp.region TT (by rfl) (fun K hK => ?_); simp only [push_cast, seval, Nat.reduceEqDiff, Nat.reduceLeDiff, reduceCtorEq]; (repeat refine sk ?_); refine hK _ ?_; clear hK K)
      ((repeat refine PWp.seq ?_); refine PWp.cond (by simp only [push_cast, seval, Nat.reduceEqDiff, Nat.reduceLeDiff, reduceCtorEq]; rfl) (fun hc => ?_) (fun hc => ?_))
      · have hlt : k < l.length := by have := of_decide_eq_true hc; omega
        clear hc
        have hs := liK_succ p l k
        have hll := liK_len p l k
        have hxl := okL_get ht hlt
        have hg : (l.map encL).getD k .any = encL (l.getD k default) := getD_map hlt
        unfold fitL at hs
        generalize l.getD k default = x at *
        ((repeat refine PWp.seq ?_); refine PWp.skip ?_)
        ((repeat refine PWp.seq ?_); refine PWp.block ?_)
        ((repeat refine PWp.seq ?_); refine PWp.region TT (by rfl) (fun K hK => ?_); simp only [push_cast, seval, Nat.reduceEqDiff, Nat.reduceLeDiff, reduceCtorEq, hg])
        ((repeat refine sk ?_); refine PCall.use (ref34_Span p x.t hp (by omega)) [] rfl (by simp [push_cast]) (by simp) (by simp [push_cast]) (by simp [push_cast]) (by simp [push_cast]) (by simp [push_cast]) ?_)
        rintro _ _ ⟨rfl, rfl⟩
        (simp only [push_cast, seval, Nat.reduceEqDiff, Nat.reduceLeDiff, reduceCtorEq]; (repeat refine sk ?_); refine hK _ ?_; clear hK K)
        ((repeat refine PWp.seq ?_); refine PWp.region TT (by rfl) (fun K hK => ?_); simp only [push_cast, seval, Nat.reduceEqDiff, Nat.reduceLeDiff, reduceCtorEq]; (repeat refine sk ?_); refine hK _ ?_; clear hK K)
        cases hb2 : (spB p x.t).2.2 with
        | true =>
          rw [hb2, if_pos rfl] at hs
          ((repeat refine PWp.seq ?_); refine PWp.cond (by simp only [push_cast, seval, Nat.reduceEqDiff, Nat.reduceLeDiff, reduceCtorEq]; rfl) (fun hc => ?_) (fun hc => ?_))
          · ((repeat refine PWp.seq ?_); refine PWp.region TT (by rfl) (fun K hK => ?_); simp only [push_cast, seval, Nat.reduceEqDiff, Nat.reduceLeDiff, reduceCtorEq]; (repeat refine sk ?_); refine hK _ ?_; clear hK K)
            ((repeat refine PWp.seq ?_); refine PWp.region TT (by rfl) (fun K hK => ?_); simp only [push_cast, seval, Nat.reduceEqDiff, Nat.reduceLeDiff, reduceCtorEq, wrap64_id (n := (k : Int) + 1) (by omega) (by omega)]; (repeat refine sk ?_); refine hK _ ?_; clear hK K)
            refine ⟨_, _, ?_, ⟨k + 1, rfl, by omega, rfl⟩, Gh.le (by simp [push_cast, -List.getD_eq_getElem?_getD, hs]) (by simp)⟩
            omega
          · cases hc
        | false =>
          rw [hb2, if_neg (by decide), List.append_nil] at hs
          ((repeat refine PWp.seq ?_); refine PWp.cond (by simp only [push_cast, seval, Nat.reduceEqDiff, Nat.reduceLeDiff, reduceCtorEq]; rfl) (fun hc => ?_) (fun hc => ?_))
          · cases hc
          · ((repeat refine PWp.seq ?_); refine PWp.skip ?_)
            ((repeat refine PWp.seq ?_); refine PWp.region TT (by rfl) (fun K hK => ?_); simp only [push_cast, seval, Nat.reduceEqDiff, Nat.reduceLeDiff, reduceCtorEq, wrap64_id (n := (k : Int) + 1) (by omega) (by omega)]; (repeat refine sk ?_); refine hK _ ?_; clear hK K)
            refine ⟨_, _, ?_, ⟨k + 1, rfl, by omega, rfl⟩, Gh.le (by simp [push_cast, -List.getD_eq_getElem?_getD, hs]) (by simp)⟩
            omega
      · have hk' : k = l.length := by have := of_decide_eq_false hc; omega
        subst hk'
        clear hc
        (repeat refine PWp.seq ?_); refine PWp.exit (iteT rfl ?_)
        ((repeat refine PWp.seq ?_); refine PWp.region TT (by rfl) (fun K hK => ?_); simp only [push_cast, seval, Nat.reduceEqDiff, Nat.reduceLeDiff, reduceCtorEq]; (repeat refine sk ?_); refine hK _ ?_; clear hK K)
        ((repeat refine PWp.seq ?_); refine PWp.ret ?_)
        refine ⟨.inr rfl, by omega, _, [], ?_, rfl, rfl⟩
        rw [hpl, he]
        (simp [push_cast, -List.getD_eq_getElem?_getD])
  · have hb : (parE p != 0) = true := bne_iff_ne.2 he
    have hpl : plA p l = [] := if_neg he
    ((repeat refine PWp.seq ?_); refine PWp.region TT (by rfl) (fun K hK => ?_); simp only [push_cast, seval, Nat.reduceEqDiff, Nat.reduceLeDiff, reduceCtorEq, hb]; (repeat refine sk ?_); refine hK _ ?_; clear hK K)
    ((repeat refine PWp.seq ?_); refine PWp.cond (by simp only [push_cast, seval, Nat.reduceEqDiff, Nat.reduceLeDiff, reduceCtorEq]; rfl) (fun hc => ?_) (fun hc => ?_))
    · ((repeat refine PWp.seq ?_); refine PWp.region TT (by rfl) (fun K hK => ?_); simp only [push_cast, seval, Nat.reduceEqDiff, Nat.reduceLeDiff, reduceCtorEq]; (repeat refine sk ?_); refine hK _ ?_; clear hK K)
      ((repeat refine PWp.seq ?_); refine PWp.ret ?_)
      refine ⟨.inr rfl, by omega, _, [], ?_, rfl, rfl⟩
      rw [hpl]
      (simp [push_cast, -List.getD_eq_getElem?_getD])
    · cases hc
/-- Places that are small. -/
def smP (P : List Int) : Prop := ∀ x ∈ P, 0 ≤ x ∧ x ≤ 1000
theorem smP_get {P : List Int} (h : smP P) {k : Nat} (hk : k < P.length) : 0 ≤ P.getD k default ∧ P.getD k default ≤ 1000 := h _ (getD_mem hk)
theorem mem_get {P : List Int} {i : Int} (h : i ∈ P) : ∃ k, k < P.length ∧ P.getD k default = i := by
  obtain ⟨k, hk, rfl⟩ := List.getElem_of_mem h
  exact ⟨k, hk, by simp [List.getD, hk]⟩
theorem ref_near (P : List Int) (i : Int) (hP : smP P) (hl : P.length ≤ 100000) (h0 : 0 ≤ i) (h1 : i ≤ 1000) : PC Try.prog 33 [iN P, iI i, iI 0] [] 0 0 (fun t obs => t = iB (decide (i ∈ P)) ∧ obs = []) := by
  refine PC.body [6] Try.func33 rfl (by rfl) (Nat.le_of_ble_eq_true (by rfl)) rfl ?_; simp only [enumA]
  ((repeat refine PWp.seq ?_); refine PWp.region TT (by rfl) (fun K hK => ?_); simp only [push_cast, seval, Nat.reduceEqDiff, Nat.reduceLeDiff, reduceCtorEq]; (repeat refine sk ?_); refine hK _ ?_; clear hK K)
  ((repeat refine PWp.seq ?_); refine PWp.region TT (by rfl) (fun K hK => ?_); simp only [push_cast, seval, Nat.reduceEqDiff, Nat.reduceLeDiff, reduceCtorEq]; (repeat refine sk ?_); refine hK _ ?_; clear hK K)
  ((repeat refine PWp.seq ?_); refine PWp.block ?_)
  refine PWp.loop (fun c st => ∃ k : Nat, c = P.length - k ∧ k ≤ P.length ∧ (∀ j < k, P.getD j default ≠ i) ∧
    st = ⟨[(0, iN P), (1, iI i), (2, iI 0), (7, iI k)], [], 0⟩) _ _ ⟨0, rfl, Nat.zero_le _, by simp, rfl⟩ (Gh.le (by simp [push_cast, -List.getD_eq_getElem?_getD]) (by simp)) ?_
  rintro c st ⟨k, rfl, hk, hf, rfl⟩
  ((repeat refine PWp.seq ?_); refine PWp.region TT (by rfl) (fun K hK => ?_); simp only [push_cast, seval, Nat.reduceEqDiff, Nat.reduceLeDiff, reduceCtorEq]; (repeat refine sk ?_); refine hK _ ?_; clear hK K)
  ((repeat refine PWp.seq ?_); refine PWp.cond (by simp only [push_cast, seval, Nat.reduceEqDiff, Nat.reduceLeDiff, reduceCtorEq]; rfl) (fun hc => ?_) (fun hc => ?_))
  · have hlt : k < P.length := by have := of_decide_eq_true hc; omega
    clear hc
    have hx := smP_get hP hlt
    have hm := getD_mem hlt
    have hg : (P.map encI).getD k .any = encI (P.getD k default) := getD_map hlt
    have hf' : P.getD k default ≠ i → ∀ j < k + 1, P.getD j default ≠ i := fun h j hj => by
      by_cases e : j = k
      · rw [e]; exact h
      · exact hf j (by omega)
    clear hf
    generalize P.getD k default = x at *
    have w1 := wrap64_id (n := x - i) (by omega) (by omega)
    have w2 := wrap64_id (n := i - x) (by omega) (by omega)
    ((repeat refine PWp.seq ?_); refine PWp.skip ?_)
    ((repeat refine PWp.seq ?_); refine PWp.block ?_)
    ((repeat refine PWp.seq ?_); refine PWp.region TT (by rfl) (fun K hK => ?_); simp only [push_cast, seval, Nat.reduceEqDiff, Nat.reduceLeDiff, reduceCtorEq, hg, w1, w2]; (repeat refine sk ?_); refine hK _ ?_; clear hK K)
    ((repeat refine PWp.seq ?_); refine PWp.cond (by simp only [push_cast, seval, Nat.reduceEqDiff, Nat.reduceLeDiff, reduceCtorEq]; rfl) (fun hc => ?_) (fun hc => ?_))
    · have e : decide (i ∈ P) = true := decide_eq_true (by
        simp only [Bool.or_eq_true, Bool.and_eq_true, Bool.not_eq_true', Bool.not_eq_false', Bool.or_eq_false_iff, Bool.and_eq_false_iff, decide_eq_true_eq, decide_eq_false_iff_not, beq_iff_eq, beq_eq_false_iff_ne, bne_iff_ne, bne_eq_false_iff_eq, ne_eq, Classical.not_not, Int.not_lt, Int.not_le, ge_iff_le, gt_iff_lt] at hc
        rw [show i = x by omega]
        exact hm)
      ((repeat refine PWp.seq ?_); refine PWp.region TT (by rfl) (fun K hK => ?_); simp only [push_cast, seval, Nat.reduceEqDiff, Nat.reduceLeDiff, reduceCtorEq]; (repeat refine sk ?_); refine hK _ ?_; clear hK K)
      ((repeat refine PWp.seq ?_); refine PWp.ret ?_)
      refine ⟨.inr rfl, by omega, _, [], ?_, rfl, rfl⟩
      rw [e]
      (simp [push_cast, -List.getD_eq_getElem?_getD])
    · have hne : x ≠ i := by simp only [Bool.or_eq_true, Bool.and_eq_true, Bool.not_eq_true', Bool.not_eq_false', Bool.or_eq_false_iff, Bool.and_eq_false_iff, decide_eq_true_eq, decide_eq_false_iff_not, beq_iff_eq, beq_eq_false_iff_ne, bne_iff_ne, bne_eq_false_iff_eq, ne_eq, Classical.not_not, Int.not_lt, Int.not_le, ge_iff_le, gt_iff_lt] at hc; omega
      clear hc
      ((repeat refine PWp.seq ?_); refine PWp.skip ?_)
      ((repeat refine PWp.seq ?_); refine PWp.region TT (by rfl) (fun K hK => ?_); simp only [push_cast, seval, Nat.reduceEqDiff, Nat.reduceLeDiff, reduceCtorEq, wrap64_id (n := (k : Int) + 1) (by omega) (by omega)]; (repeat refine sk ?_); refine hK _ ?_; clear hK K)
      refine ⟨_, _, ?_, ⟨k + 1, rfl, by omega, hf' hne, rfl⟩, Gh.le (by simp [push_cast, -List.getD_eq_getElem?_getD]) (by simp)⟩
      omega
  · have hk' : k = P.length := by have := of_decide_eq_false hc; omega
    subst hk'
    have e : decide (i ∈ P) = false := decide_eq_false (fun h => by
      obtain ⟨j, hj, e⟩ := mem_get h
      exact hf j hj e)
    (repeat refine PWp.seq ?_); refine PWp.exit (iteT rfl ?_)
    ((repeat refine PWp.seq ?_); refine PWp.region TT (by rfl) (fun K hK => ?_); simp only [push_cast, seval, Nat.reduceEqDiff, Nat.reduceLeDiff, reduceCtorEq]; (repeat refine sk ?_); refine hK _ ?_; clear hK K)
    ((repeat refine PWp.seq ?_); refine PWp.ret ?_)
    refine ⟨.inr rfl, by omega, _, [], ?_, rfl, rfl⟩
    rw [e]
    (simp [push_cast, -List.getD_eq_getElem?_getD])
theorem ref_Ints (a b : List Int) (ha : a.length ≤ 1000000) : PC Try.prog 23 [iN a, iN b] [] 0 0 (fun t obs => t = iB (decide (a = b)) ∧ obs = []) := by
  refine PC.body [4] Try.func23 rfl (by rfl) (Nat.le_of_ble_eq_true (by rfl)) rfl ?_; simp only [enumA]
  ((repeat refine PWp.seq ?_); refine PWp.region TT (by rfl) (fun K hK => ?_); simp only [push_cast, seval, Nat.reduceEqDiff, Nat.reduceLeDiff, reduceCtorEq]; (repeat refine sk ?_); refine hK _ ?_; clear hK K)
  ((repeat refine PWp.seq ?_); refine PWp.region TT (by rfl) (fun K hK => ?_); simp only [push_cast, seval, Nat.reduceEqDiff, Nat.reduceLeDiff, reduceCtorEq]; (repeat refine sk ?_); refine hK _ ?_; clear hK K)
  ((repeat refine PWp.seq ?_); refine PWp.cond (by simp only [push_cast, seval, Nat.reduceEqDiff, Nat.reduceLeDiff, reduceCtorEq]; rfl) (fun hc => ?_) (fun hc => ?_))
  · have e : decide (a = b) = false := decide_eq_false (fun h => by
      subst h
      simp at hc)
    ((repeat refine PWp.seq ?_); refine PWp.region TT (by rfl) (fun K hK => ?_); simp only [push_cast, seval, Nat.reduceEqDiff, Nat.reduceLeDiff, reduceCtorEq]; (repeat refine sk ?_); refine hK _ ?_; clear hK K)
    ((repeat refine PWp.seq ?_); refine PWp.ret ?_)
    refine ⟨.inr rfl, by omega, _, [], ?_, rfl, rfl⟩
    rw [e]
    (simp [push_cast, -List.getD_eq_getElem?_getD])
  · have hl : a.length = b.length := by have := bne_eq_false_iff_eq.1 hc; omega
    clear hc
    ((repeat refine PWp.seq ?_); refine PWp.skip ?_)
    ((repeat refine PWp.seq ?_); refine PWp.region TT (by rfl) (fun K hK => ?_); simp only [push_cast, seval, Nat.reduceEqDiff, Nat.reduceLeDiff, reduceCtorEq]; (repeat refine sk ?_); refine hK _ ?_; clear hK K)
    ((repeat refine PWp.seq ?_); refine PWp.block ?_)
    refine PWp.loop (fun c st => ∃ k : Nat, c = a.length - k ∧ k ≤ a.length ∧ (∀ i < k, a.getD i default = b.getD i default) ∧
      st = ⟨[(0, iN a), (1, iN b), (5, iI k)], [], 0⟩) _ _ ⟨0, rfl, Nat.zero_le _, by simp, rfl⟩ (Gh.le (by simp [push_cast, -List.getD_eq_getElem?_getD]) (by simp)) ?_
    rintro c st ⟨k, rfl, hk, hf, rfl⟩
    ((repeat refine PWp.seq ?_); refine PWp.region TT (by rfl) (fun K hK => ?_); simp only [push_cast, seval, Nat.reduceEqDiff, Nat.reduceLeDiff, reduceCtorEq]; (repeat refine sk ?_); refine hK _ ?_; clear hK K)
    ((repeat refine PWp.seq ?_); refine PWp.cond (by simp only [push_cast, seval, Nat.reduceEqDiff, Nat.reduceLeDiff, reduceCtorEq]; rfl) (fun hc => ?_) (fun hc => ?_))
    · have hlt : k < a.length := by simpa using hc
      clear hc
      ((repeat refine PWp.seq ?_); refine PWp.skip ?_)
      ((repeat refine PWp.seq ?_); refine PWp.block ?_)
      ((repeat refine PWp.seq ?_); refine PWp.draw TT (by kernel_rfl) (by kernel_rfl) (by rfl) (by rfl) (fun K hK => ?_); simp only [push_cast, seval, Nat.reduceEqDiff, Nat.reduceLeDiff, reduceCtorEq, getD_map hlt, getD_map (show k < b.length by omega)]; (repeat refine sk ?_); refine hK _ ?_; clear hK K)
      ((repeat refine PWp.seq ?_); refine PWp.cond (by simp only [push_cast, seval, Nat.reduceEqDiff, Nat.reduceLeDiff, reduceCtorEq]; rfl) (fun hc => ?_) (fun hc => ?_))
      · have e : decide (a = b) = false := decide_eq_false (fun h => by
          subst h
          simp at hc)
        ((repeat refine PWp.seq ?_); refine PWp.region TT (by rfl) (fun K hK => ?_); simp only [push_cast, seval, Nat.reduceEqDiff, Nat.reduceLeDiff, reduceCtorEq]; (repeat refine sk ?_); refine hK _ ?_; clear hK K)
        ((repeat refine PWp.seq ?_); refine PWp.ret ?_)
        refine ⟨.inr rfl, by omega, _, [], ?_, rfl, rfl⟩
        rw [e]
        (simp [push_cast, -List.getD_eq_getElem?_getD])
      · have he : a.getD k default = b.getD k default := by simp only [Bool.or_eq_true, Bool.and_eq_true, Bool.not_eq_true', Bool.not_eq_false', Bool.or_eq_false_iff, Bool.and_eq_false_iff, decide_eq_true_eq, decide_eq_false_iff_not, beq_iff_eq, beq_eq_false_iff_ne, bne_iff_ne, bne_eq_false_iff_eq, ne_eq, Classical.not_not, Int.not_lt, Int.not_le, ge_iff_le, gt_iff_lt] at hc; exact hc
        ((repeat refine PWp.seq ?_); refine PWp.skip ?_)
        ((repeat refine PWp.seq ?_); refine PWp.region TT (by rfl) (fun K hK => ?_); simp only [push_cast, seval, Nat.reduceEqDiff, Nat.reduceLeDiff, reduceCtorEq, wrap64_id (n := (k : Int) + 1) (by omega) (by omega)]; (repeat refine sk ?_); refine hK _ ?_; clear hK K)
        refine ⟨_, _, ?_, ⟨k + 1, rfl, by omega, fun i hi => ?_, rfl⟩, Gh.le (by simp [push_cast, -List.getD_eq_getElem?_getD]) (by simp)⟩
        · omega
        · by_cases e : i = k
          · subst e; exact he
          · exact hf i (by omega)
    · have hk' : k = a.length := by simp at hc; omega
      subst hk'
      have e : decide (a = b) = true := decide_eq_true (lists_eq hl hf)
      (repeat refine PWp.seq ?_); refine PWp.exit (iteT rfl ?_)
      ((repeat refine PWp.seq ?_); refine PWp.region TT (by rfl) (fun K hK => ?_); simp only [push_cast, seval, Nat.reduceEqDiff, Nat.reduceLeDiff, reduceCtorEq]; (repeat refine sk ?_); refine hK _ ?_; clear hK K)
      ((repeat refine PWp.seq ?_); refine PWp.ret ?_)
      refine ⟨.inr rfl, by omega, _, [], ?_, rfl, rfl⟩
      rw [e]
      (simp [push_cast, -List.getD_eq_getElem?_getD])
/-! ### A set of places -/
def fm (P : List Int) : List (Int × TV) := P.map fun p => (p, .iv (.lit (.bool true)))
theorem fm_find (P : List Int) (n : Int) : mapFind (fm P) n = if n ∈ P then some (.iv (.lit (.bool true))) else none := by
  induction P with
  | nil => rfl
  | cons p P ih =>
    simp only [fm, List.map_cons, mapFind, List.mem_cons] at ih ⊢
    by_cases e : n = p
    · subst e; simp
    · rw [beq_eq_false_iff_ne.2 e, cond_false, ih]; simp [e]
theorem fm_put (P : List Int) (n : Int) (h : n ∉ P) : mapPut (fm P) n (.iv (.lit (.bool true))) = fm (P ++ [n]) := by
  induction P with
  | nil => rfl
  | cons p P ih =>
    simp only [List.mem_cons, not_or] at h
    simp only [fm, List.map_cons, List.cons_append, mapPut] at ih ⊢
    rw [beq_eq_false_iff_ne.2 h.1, cond_false, ih h.2]
theorem mapsle_fm (n : Nat) (P : List Int) : mapsle n (fm P) (fm P) := by
  induction P with
  | nil => trivial
  | cons p P ih => exact ⟨rfl, .inl rfl, rfl, ih⟩
theorem mapsleR_fm (σ : List Nat) (P : List Int) : mapsleR σ (fm P) (fm P) := by
  induction P with
  | nil => trivial
  | cons p P ih => exact ⟨rfl, .inl rfl, rfl, ih⟩
theorem demE_fm (S : List Nat) (P : List Int) : demE S (fm P) = fm P := by
  induction P with
  | nil => rfl
  | cons p P ih =>
    simp only [fm, List.map_cons, demE] at ih ⊢
    rw [ih]
    rfl
attribute [push_cast] mapsle_fm mapsleR_fm demE_fm
end Go.Proofs.Ytjlnialglahdoaa
