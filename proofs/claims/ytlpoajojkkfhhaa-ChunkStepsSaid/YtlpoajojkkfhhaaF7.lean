/- Walks of chapter 12: numbers that are there once on both sides. -/
import Derived.Test.YtlpoajojkkfhhaaF6
namespace Go.Proofs.Ytlpoajojkkfhhaa
open Go.PL
set_option maxRecDepth 100000
set_option linter.unusedSimpArgs false
set_option linter.unusedVariables false
def encI (n : Int) : IV := .lit (.int .i64 n)
attribute [push_cast] encI
def encM (es : List (Int × Int)) : List (Int × IV) := es.map fun p => (p.1, .lit (.int .i64 p.2))
def getM : List (Int × Int) → Int → Int
  | [], _ => 0
  | (a, x) :: l, k => bif k == a then x else getM l k
def putM : List (Int × Int) → Int → Int → List (Int × Int)
  | [], k, x => [(k, x)]
  | (a, y) :: l, k, x => bif k == a then (k, x) :: l else (a, y) :: putM l k x
theorem mapFind_enc (es : List (Int × Int)) (n : Int) : (mapFind (encM es) n).getD (.lit (.int .i64 0)) = .lit (.int .i64 (getM es n)) := by
  induction es with
  | nil => rfl
  | cons p l ih =>
    obtain ⟨a, x⟩ := p
    simp only [encM, List.map_cons, mapFind, getM]
    cases n == a
    · exact ih
    · rfl
theorem mapPut_enc (es : List (Int × Int)) (n v : Int) : mapPut (encM es) n (.lit (.int .i64 v)) = encM (putM es n v) := by
  induction es with
  | nil => rfl
  | cons p l ih =>
    obtain ⟨a, x⟩ := p
    simp only [encM, List.map_cons, mapPut, putM]
    cases n == a
    · simp only [cond_false, List.map_cons]; congr 1
    · rfl
theorem getM_put (es : List (Int × Int)) (n v k : Int) : getM (putM es n v) k = if k = n then v else getM es k := by
  induction es with
  | nil =>
    simp only [putM, getM]
    by_cases h : k = n
    · simp [h]
    · simp [h, show (k == n) = false from beq_eq_false_iff_ne.2 h]
  | cons p l ih =>
    obtain ⟨a, x⟩ := p
    simp only [putM, getM]
    by_cases hn : n = a
    · subst hn
      simp only [beq_self_eq_true, cond_true, getM]
      by_cases h : k = n
      · simp [h]
      · simp [h, show (k == n) = false from beq_eq_false_iff_ne.2 h]
    · have hb : (n == a) = false := beq_eq_false_iff_ne.2 hn
      simp only [hb, cond_false, getM, ih]
      by_cases h : k = n
      · subst h; simp [hb]
      · simp [h]

theorem often_walk (l : List Int) (hp : l.length ≤ 1000000) : PC Try.prog 46 [.iv (.sl 1 (l.map encI))] [] 0 1 (fun t obs => t = .mptr 0 ∧ ∃ es, obs = [(0, .map 3 3 (encM es))] ∧ ∀ n, getM es n = (l.count n : Int)) := by
  refine PC.body [2] Try.func46 rfl (by rfl) (Nat.le_of_ble_eq_true (by rfl)) rfl ?_; simp only [enumA]
  ((repeat refine PWp.seq ?_); refine PWp.region TT (by rfl) (fun K hK => ?_); simp only [push_cast, beq_self_eq_true, Int.reduceBEq, Int.reduceToNat, Int.reduceAdd, Int.reduceSub, Nat.reduceBEq, Nat.reduceAdd, Nat.reduceMul, Nat.reduceLT, Nat.reduceSub, Nat.reduceEqDiff, Nat.reduceLeDiff, Bool.not_true, Bool.not_false, Bool.false_eq_true, false_implies, forall_const, Bool.true_beq, Bool.false_beq, beq_true, beq_false, implies_true, reduceCtorEq]; (repeat (refine ⟨by clear hK; first | omega | trivial | exact id | (intro h; rw [h]; rfl) | (intro h; exact ⟨h, h⟩) | (intros; decide) | (intro h; simp only [Bool.and_eq_true, Bool.not_eq_true', Bool.or_eq_false_iff, Bool.not_eq_false'] at h; simp [h]; done) | (intros; simp_all; done) | (intros; simp_all; omega), ?_⟩)); refine hK _ ?_; clear hK K)
  ((repeat refine PWp.seq ?_); refine PWp.region TT (by rfl) (fun K hK => ?_); simp only [push_cast, beq_self_eq_true, Int.reduceBEq, Int.reduceToNat, Int.reduceAdd, Int.reduceSub, Nat.reduceBEq, Nat.reduceAdd, Nat.reduceMul, Nat.reduceLT, Nat.reduceSub, Nat.reduceEqDiff, Nat.reduceLeDiff, Bool.not_true, Bool.not_false, Bool.false_eq_true, false_implies, forall_const, Bool.true_beq, Bool.false_beq, beq_true, beq_false, implies_true, reduceCtorEq]; (repeat (refine ⟨by clear hK; first | omega | trivial | exact id | (intro h; rw [h]; rfl) | (intro h; exact ⟨h, h⟩) | (intros; decide) | (intro h; simp only [Bool.and_eq_true, Bool.not_eq_true', Bool.or_eq_false_iff, Bool.not_eq_false'] at h; simp [h]; done) | (intros; simp_all; done) | (intros; simp_all; omega), ?_⟩)); refine hK _ ?_; clear hK K)
  ((repeat refine PWp.seq ?_); refine PWp.region TT (by rfl) (fun K hK => ?_); simp only [push_cast, beq_self_eq_true, Int.reduceBEq, Int.reduceToNat, Int.reduceAdd, Int.reduceSub, Nat.reduceBEq, Nat.reduceAdd, Nat.reduceMul, Nat.reduceLT, Nat.reduceSub, Nat.reduceEqDiff, Nat.reduceLeDiff, Bool.not_true, Bool.not_false, Bool.false_eq_true, false_implies, forall_const, Bool.true_beq, Bool.false_beq, beq_true, beq_false, implies_true, reduceCtorEq]; (repeat (refine ⟨by clear hK; first | omega | trivial | exact id | (intro h; rw [h]; rfl) | (intro h; exact ⟨h, h⟩) | (intros; decide) | (intro h; simp only [Bool.and_eq_true, Bool.not_eq_true', Bool.or_eq_false_iff, Bool.not_eq_false'] at h; simp [h]; done) | (intros; simp_all; done) | (intros; simp_all; omega), ?_⟩)); refine hK _ ?_; clear hK K)
  ((repeat refine PWp.seq ?_); refine PWp.block ?_)
  refine PWp.loop (fun c st => ∃ k : Nat, ∃ es, c = l.length - k ∧ k ≤ l.length ∧ (∀ n, getM es n = ((l.take k).count n : Int)) ∧
    st = ⟨[(3, .mptr 0), (7, .iv (.sl 1 (l.map encI))), (8, .iv (.lit (.int .i64 l.length))), (9, .iv (.lit (.int .i64 k)))], [(0, .map 3 3 (encM es))], 1⟩) _ _ ⟨0, [], rfl, Nat.zero_le _, by simp [getM], rfl⟩ (Gh.le (by simp [push_cast, -List.getD_eq_getElem?_getD, encM]) (by simp)) ?_
  rintro c st ⟨k, es, rfl, hk, hes, rfl⟩
  ((repeat refine PWp.seq ?_); refine PWp.region TT (by rfl) (fun K hK => ?_); simp only [push_cast, beq_self_eq_true, Int.reduceBEq, Int.reduceToNat, Int.reduceAdd, Int.reduceSub, Nat.reduceBEq, Nat.reduceAdd, Nat.reduceMul, Nat.reduceLT, Nat.reduceSub, Nat.reduceEqDiff, Nat.reduceLeDiff, Bool.not_true, Bool.not_false, Bool.false_eq_true, false_implies, forall_const, Bool.true_beq, Bool.false_beq, beq_true, beq_false, implies_true, reduceCtorEq]; (repeat (refine ⟨by clear hK; first | omega | trivial | exact id | (intro h; rw [h]; rfl) | (intro h; exact ⟨h, h⟩) | (intros; decide) | (intro h; simp only [Bool.and_eq_true, Bool.not_eq_true', Bool.or_eq_false_iff, Bool.not_eq_false'] at h; simp [h]; done) | (intros; simp_all; done) | (intros; simp_all; omega), ?_⟩)); refine hK _ ?_; clear hK K)
  ((repeat refine PWp.seq ?_); refine PWp.cond (by simp only [push_cast, beq_self_eq_true, Int.reduceBEq, Int.reduceToNat, Int.reduceAdd, Int.reduceSub, Nat.reduceBEq, Nat.reduceAdd, Nat.reduceMul, Nat.reduceLT, Nat.reduceSub, Nat.reduceEqDiff, Nat.reduceLeDiff, Bool.not_true, Bool.not_false, Bool.false_eq_true, false_implies, forall_const, Bool.true_beq, Bool.false_beq, beq_true, beq_false, implies_true, reduceCtorEq]; rfl) (fun hc => ?_) (fun hc => ?_))
  · have hlt : k < l.length := by simpa using hc
    clear hc
    have hcnt : (l.take k).count (l.getD k default) ≤ k := Nat.le_trans List.count_le_length (by simp; omega)
    have hg := hes (l.getD k default)
    ((repeat refine PWp.seq ?_); refine PWp.skip ?_)
    ((repeat refine PWp.seq ?_); refine PWp.block ?_)
    ((repeat refine PWp.seq ?_); refine PWp.region TT (by rfl) (fun K hK => ?_); simp only [push_cast, beq_self_eq_true, Int.reduceBEq, Int.reduceToNat, Int.reduceAdd, Int.reduceSub, Nat.reduceBEq, Nat.reduceAdd, Nat.reduceMul, Nat.reduceLT, Nat.reduceSub, Nat.reduceEqDiff, Nat.reduceLeDiff, Bool.not_true, Bool.not_false, Bool.false_eq_true, false_implies, forall_const, Bool.true_beq, Bool.false_beq, beq_true, beq_false, implies_true, reduceCtorEq, getD_map hlt]; (repeat (refine ⟨by clear hK; first | omega | trivial | exact id | (intro h; rw [h]; rfl) | (intro h; exact ⟨h, h⟩) | (intros; decide) | (intro h; simp only [Bool.and_eq_true, Bool.not_eq_true', Bool.or_eq_false_iff, Bool.not_eq_false'] at h; simp [h]; done) | (intros; simp_all; done) | (intros; simp_all; omega), ?_⟩)); refine hK _ ?_; clear hK K)
    ((repeat refine PWp.seq ?_); refine PWp.region TT (by rfl) (fun K hK => ?_); simp only [push_cast, beq_self_eq_true, Int.reduceBEq, Int.reduceToNat, Int.reduceAdd, Int.reduceSub, Nat.reduceBEq, Nat.reduceAdd, Nat.reduceMul, Nat.reduceLT, Nat.reduceSub, Nat.reduceEqDiff, Nat.reduceLeDiff, Bool.not_true, Bool.not_false, Bool.false_eq_true, false_implies, forall_const, Bool.true_beq, Bool.false_beq, beq_true, beq_false, implies_true, reduceCtorEq, mapFind_enc, wrap64_id (n := getM es (l.getD k default) + 1) (by omega) (by omega), mapPut_enc]; (repeat (refine ⟨by clear hK; first | omega | trivial | exact id | (intro h; rw [h]; rfl) | (intro h; exact ⟨h, h⟩) | (intros; decide) | (intro h; simp only [Bool.and_eq_true, Bool.not_eq_true', Bool.or_eq_false_iff, Bool.not_eq_false'] at h; simp [h]; done) | (intros; simp_all; done) | (intros; simp_all; omega), ?_⟩)); refine hK _ ?_; clear hK K)
    ((repeat refine PWp.seq ?_); refine PWp.region TT (by rfl) (fun K hK => ?_); simp only [push_cast, beq_self_eq_true, Int.reduceBEq, Int.reduceToNat, Int.reduceAdd, Int.reduceSub, Nat.reduceBEq, Nat.reduceAdd, Nat.reduceMul, Nat.reduceLT, Nat.reduceSub, Nat.reduceEqDiff, Nat.reduceLeDiff, Bool.not_true, Bool.not_false, Bool.false_eq_true, false_implies, forall_const, Bool.true_beq, Bool.false_beq, beq_true, beq_false, implies_true, reduceCtorEq, wrap64_id (n := (k : Int) + 1) (by omega) (by omega)]; (repeat (refine ⟨by clear hK; first | omega | trivial | exact id | (intro h; rw [h]; rfl) | (intro h; exact ⟨h, h⟩) | (intros; decide) | (intro h; simp only [Bool.and_eq_true, Bool.not_eq_true', Bool.or_eq_false_iff, Bool.not_eq_false'] at h; simp [h]; done) | (intros; simp_all; done) | (intros; simp_all; omega), ?_⟩)); refine hK _ ?_; clear hK K)
    refine ⟨_, _, ?_, ⟨k + 1, putM es (l.getD k default) (getM es (l.getD k default) + 1), rfl, by omega, fun n => ?_, rfl⟩, Gh.le (by simp [push_cast, -List.getD_eq_getElem?_getD]) (by simp)⟩
    · omega
    · have e : l.take (k + 1) = l.take k ++ [l.getD k default] := by
        rw [List.take_succ_eq_append_getElem hlt]; simp [List.getD, hlt]
      rw [getM_put, e, List.count_append, hes, hes]
      by_cases h : n = l.getD k default
      · subst h; simp
      · rw [if_neg h]
        have : [l.getD k default].count n = 0 := by rw [List.count_eq_zero]; simpa using h
        omega
  · have hk' : k = l.length := by simp at hc; omega
    subst hk'
    (repeat refine PWp.seq ?_); refine PWp.exit (iteT rfl ?_)
    ((repeat refine PWp.seq ?_); refine PWp.region TT (by rfl) (fun K hK => ?_); simp only [push_cast, beq_self_eq_true, Int.reduceBEq, Int.reduceToNat, Int.reduceAdd, Int.reduceSub, Nat.reduceBEq, Nat.reduceAdd, Nat.reduceMul, Nat.reduceLT, Nat.reduceSub, Nat.reduceEqDiff, Nat.reduceLeDiff, Bool.not_true, Bool.not_false, Bool.false_eq_true, false_implies, forall_const, Bool.true_beq, Bool.false_beq, beq_true, beq_false, implies_true, reduceCtorEq]; (repeat (refine ⟨by clear hK; first | omega | trivial | exact id | (intro h; rw [h]; rfl) | (intro h; exact ⟨h, h⟩) | (intros; decide) | (intro h; simp only [Bool.and_eq_true, Bool.not_eq_true', Bool.or_eq_false_iff, Bool.not_eq_false'] at h; simp [h]; done) | (intros; simp_all; done) | (intros; simp_all; omega), ?_⟩)); refine hK _ ?_; clear hK K)
    ((repeat refine PWp.seq ?_); refine PWp.ret ?_)
    refine ⟨.inr rfl, by omega, _, _, ?_, rfl, es, rfl, by simpa using hes⟩
    (simp [push_cast, -List.getD_eq_getElem?_getD])

/-- Where a number is first. -/
def idxL (l : List Int) (v : Int) : Int := match l.findIdx? (fun q => q == v) with | some k => k | none => -1
theorem idxL_none {p : List Int} {i : Int} (h : ∀ j < p.length, p.getD j default ≠ i) : idxL p i = -1 := by
  unfold idxL
  rw [List.findIdx?_eq_none_iff.2]
  intro q hq
  obtain ⟨j, hj⟩ := List.getElem?_of_mem hq
  have hlt := (List.getElem?_eq_some_iff.1 hj).1
  have := h j hlt
  rw [List.getD_eq_getElem?_getD, hj] at this
  simpa using this
theorem idxL_some {p : List Int} {i : Int} {k : Nat} (hk : k < p.length) (h : ∀ j < k, p.getD j default ≠ i) (he : p.getD k default = i) : idxL p i = k := by
  have e : p.findIdx? (fun q => q == i) = some k := by
    refine (List.findIdx?_eq_some_iff_getElem).2 ⟨hk, ?_, fun j hj => ?_⟩
    · simpa [List.getD, hk] using he
    · have := h j hj
      simpa [List.getD, show j < p.length by omega] using this
  unfold idxL
  rw [e]
theorem Index_walk (l : List Int) (v : Int) (hp : l.length ≤ 1000000) : PC Try.prog 47 [.iv (.sl 1 (l.map encI)), .iv (.lit (.int .i64 v))] [] 0 0 (fun t obs => t = .iv (.lit (.int .i64 (idxL l v))) ∧ obs = []) := by
  refine PC.body [4] Try.func47 rfl (by rfl) (Nat.le_of_ble_eq_true (by rfl)) rfl ?_; simp only [enumA]
  ((repeat refine PWp.seq ?_); refine PWp.region TT (by rfl) (fun K hK => ?_); simp only [push_cast, beq_self_eq_true, Int.reduceBEq, Int.reduceToNat, Int.reduceAdd, Int.reduceSub, Nat.reduceBEq, Nat.reduceAdd, Nat.reduceMul, Nat.reduceLT, Nat.reduceSub, Nat.reduceEqDiff, Nat.reduceLeDiff, Bool.not_true, Bool.not_false, Bool.false_eq_true, false_implies, forall_const, Bool.true_beq, Bool.false_beq, beq_true, beq_false, implies_true, reduceCtorEq]; (repeat (refine ⟨by clear hK; first | omega | trivial | exact id | (intro h; rw [h]; rfl) | (intro h; exact ⟨h, h⟩) | (intros; decide) | (intro h; simp only [Bool.and_eq_true, Bool.not_eq_true', Bool.or_eq_false_iff, Bool.not_eq_false'] at h; simp [h]; done) | (intros; simp_all; done) | (intros; simp_all; omega), ?_⟩)); refine hK _ ?_; clear hK K)
  ((repeat refine PWp.seq ?_); refine PWp.region TT (by rfl) (fun K hK => ?_); simp only [push_cast, beq_self_eq_true, Int.reduceBEq, Int.reduceToNat, Int.reduceAdd, Int.reduceSub, Nat.reduceBEq, Nat.reduceAdd, Nat.reduceMul, Nat.reduceLT, Nat.reduceSub, Nat.reduceEqDiff, Nat.reduceLeDiff, Bool.not_true, Bool.not_false, Bool.false_eq_true, false_implies, forall_const, Bool.true_beq, Bool.false_beq, beq_true, beq_false, implies_true, reduceCtorEq]; (repeat (refine ⟨by clear hK; first | omega | trivial | exact id | (intro h; rw [h]; rfl) | (intro h; exact ⟨h, h⟩) | (intros; decide) | (intro h; simp only [Bool.and_eq_true, Bool.not_eq_true', Bool.or_eq_false_iff, Bool.not_eq_false'] at h; simp [h]; done) | (intros; simp_all; done) | (intros; simp_all; omega), ?_⟩)); refine hK _ ?_; clear hK K)
  ((repeat refine PWp.seq ?_); refine PWp.block ?_)
  refine PWp.loop (fun c st => ∃ k : Nat, c = l.length - k ∧ k ≤ l.length ∧ (∀ j < k, l.getD j default ≠ v) ∧
    st = ⟨[(0, .iv (.sl 1 (l.map encI))), (1, .iv (.lit (.int .i64 v))), (7, .iv (.lit (.int .i64 l.length))), (8, .iv (.lit (.int .i64 k)))], [], 0⟩) _ _ ⟨0, rfl, Nat.zero_le _, by simp, rfl⟩ (Gh.le (by simp [push_cast, -List.getD_eq_getElem?_getD]) (by simp)) ?_
  rintro c st ⟨k, rfl, hk, hf, rfl⟩
  ((repeat refine PWp.seq ?_); refine PWp.region TT (by rfl) (fun K hK => ?_); simp only [push_cast, beq_self_eq_true, Int.reduceBEq, Int.reduceToNat, Int.reduceAdd, Int.reduceSub, Nat.reduceBEq, Nat.reduceAdd, Nat.reduceMul, Nat.reduceLT, Nat.reduceSub, Nat.reduceEqDiff, Nat.reduceLeDiff, Bool.not_true, Bool.not_false, Bool.false_eq_true, false_implies, forall_const, Bool.true_beq, Bool.false_beq, beq_true, beq_false, implies_true, reduceCtorEq]; (repeat (refine ⟨by clear hK; first | omega | trivial | exact id | (intro h; rw [h]; rfl) | (intro h; exact ⟨h, h⟩) | (intros; decide) | (intro h; simp only [Bool.and_eq_true, Bool.not_eq_true', Bool.or_eq_false_iff, Bool.not_eq_false'] at h; simp [h]; done) | (intros; simp_all; done) | (intros; simp_all; omega), ?_⟩)); refine hK _ ?_; clear hK K)
  ((repeat refine PWp.seq ?_); refine PWp.cond (by simp only [push_cast, beq_self_eq_true, Int.reduceBEq, Int.reduceToNat, Int.reduceAdd, Int.reduceSub, Nat.reduceBEq, Nat.reduceAdd, Nat.reduceMul, Nat.reduceLT, Nat.reduceSub, Nat.reduceEqDiff, Nat.reduceLeDiff, Bool.not_true, Bool.not_false, Bool.false_eq_true, false_implies, forall_const, Bool.true_beq, Bool.false_beq, beq_true, beq_false, implies_true, reduceCtorEq]; rfl) (fun hc => ?_) (fun hc => ?_))
  · have hlt : k < l.length := by simpa using hc
    clear hc
    ((repeat refine PWp.seq ?_); refine PWp.skip ?_)
    ((repeat refine PWp.seq ?_); refine PWp.block ?_)
    ((repeat refine PWp.seq ?_); refine PWp.region TT (by rfl) (fun K hK => ?_); simp only [push_cast, beq_self_eq_true, Int.reduceBEq, Int.reduceToNat, Int.reduceAdd, Int.reduceSub, Nat.reduceBEq, Nat.reduceAdd, Nat.reduceMul, Nat.reduceLT, Nat.reduceSub, Nat.reduceEqDiff, Nat.reduceLeDiff, Bool.not_true, Bool.not_false, Bool.false_eq_true, false_implies, forall_const, Bool.true_beq, Bool.false_beq, beq_true, beq_false, implies_true, reduceCtorEq]; (repeat (refine ⟨by clear hK; first | omega | trivial | exact id | (intro h; rw [h]; rfl) | (intro h; exact ⟨h, h⟩) | (intros; decide) | (intro h; simp only [Bool.and_eq_true, Bool.not_eq_true', Bool.or_eq_false_iff, Bool.not_eq_false'] at h; simp [h]; done) | (intros; simp_all; done) | (intros; simp_all; omega), ?_⟩)); refine hK _ ?_; clear hK K)
    ((repeat refine PWp.seq ?_); refine PWp.region TT (by rfl) (fun K hK => ?_); simp only [push_cast, beq_self_eq_true, Int.reduceBEq, Int.reduceToNat, Int.reduceAdd, Int.reduceSub, Nat.reduceBEq, Nat.reduceAdd, Nat.reduceMul, Nat.reduceLT, Nat.reduceSub, Nat.reduceEqDiff, Nat.reduceLeDiff, Bool.not_true, Bool.not_false, Bool.false_eq_true, false_implies, forall_const, Bool.true_beq, Bool.false_beq, beq_true, beq_false, implies_true, reduceCtorEq, getD_map hlt]; (repeat (refine ⟨by clear hK; first | omega | trivial | exact id | (intro h; rw [h]; rfl) | (intro h; exact ⟨h, h⟩) | (intros; decide) | (intro h; simp only [Bool.and_eq_true, Bool.not_eq_true', Bool.or_eq_false_iff, Bool.not_eq_false'] at h; simp [h]; done) | (intros; simp_all; done) | (intros; simp_all; omega), ?_⟩)); refine hK _ ?_; clear hK K)
    ((repeat refine PWp.seq ?_); refine PWp.cond (by simp only [push_cast, beq_self_eq_true, Int.reduceBEq, Int.reduceToNat, Int.reduceAdd, Int.reduceSub, Nat.reduceBEq, Nat.reduceAdd, Nat.reduceMul, Nat.reduceLT, Nat.reduceSub, Nat.reduceEqDiff, Nat.reduceLeDiff, Bool.not_true, Bool.not_false, Bool.false_eq_true, false_implies, forall_const, Bool.true_beq, Bool.false_beq, beq_true, beq_false, implies_true, reduceCtorEq]; rfl) (fun hc => ?_) (fun hc => ?_))
    · have he : l.getD k default = v := by simp only [Bool.or_eq_true, Bool.and_eq_true, Bool.not_eq_true', Bool.not_eq_false', Bool.or_eq_false_iff, Bool.and_eq_false_iff, decide_eq_true_eq, decide_eq_false_iff_not, beq_iff_eq, beq_eq_false_iff_ne, bne_iff_ne, bne_eq_false_iff_eq, ne_eq, Classical.not_not, Int.not_lt, Int.not_le, ge_iff_le, gt_iff_lt] at hc; exact hc.symm
      ((repeat refine PWp.seq ?_); refine PWp.region TT (by rfl) (fun K hK => ?_); simp only [push_cast, beq_self_eq_true, Int.reduceBEq, Int.reduceToNat, Int.reduceAdd, Int.reduceSub, Nat.reduceBEq, Nat.reduceAdd, Nat.reduceMul, Nat.reduceLT, Nat.reduceSub, Nat.reduceEqDiff, Nat.reduceLeDiff, Bool.not_true, Bool.not_false, Bool.false_eq_true, false_implies, forall_const, Bool.true_beq, Bool.false_beq, beq_true, beq_false, implies_true, reduceCtorEq]; (repeat (refine ⟨by clear hK; first | omega | trivial | exact id | (intro h; rw [h]; rfl) | (intro h; exact ⟨h, h⟩) | (intros; decide) | (intro h; simp only [Bool.and_eq_true, Bool.not_eq_true', Bool.or_eq_false_iff, Bool.not_eq_false'] at h; simp [h]; done) | (intros; simp_all; done) | (intros; simp_all; omega), ?_⟩)); refine hK _ ?_; clear hK K)
      ((repeat refine PWp.seq ?_); refine PWp.ret ?_)
      refine ⟨.inr rfl, by omega, _, [], ?_, rfl, rfl⟩
      rw [idxL_some hlt hf he]
      (simp [push_cast, -List.getD_eq_getElem?_getD])
    · have he : l.getD k default ≠ v := by simp only [Bool.or_eq_true, Bool.and_eq_true, Bool.not_eq_true', Bool.not_eq_false', Bool.or_eq_false_iff, Bool.and_eq_false_iff, decide_eq_true_eq, decide_eq_false_iff_not, beq_iff_eq, beq_eq_false_iff_ne, bne_iff_ne, bne_eq_false_iff_eq, ne_eq, Classical.not_not, Int.not_lt, Int.not_le, ge_iff_le, gt_iff_lt] at hc; exact fun e => hc e.symm
      ((repeat refine PWp.seq ?_); refine PWp.skip ?_)
      ((repeat refine PWp.seq ?_); refine PWp.region TT (by rfl) (fun K hK => ?_); simp only [push_cast, beq_self_eq_true, Int.reduceBEq, Int.reduceToNat, Int.reduceAdd, Int.reduceSub, Nat.reduceBEq, Nat.reduceAdd, Nat.reduceMul, Nat.reduceLT, Nat.reduceSub, Nat.reduceEqDiff, Nat.reduceLeDiff, Bool.not_true, Bool.not_false, Bool.false_eq_true, false_implies, forall_const, Bool.true_beq, Bool.false_beq, beq_true, beq_false, implies_true, reduceCtorEq, wrap64_id (n := (k : Int) + 1) (by omega) (by omega)]; (repeat (refine ⟨by clear hK; first | omega | trivial | exact id | (intro h; rw [h]; rfl) | (intro h; exact ⟨h, h⟩) | (intros; decide) | (intro h; simp only [Bool.and_eq_true, Bool.not_eq_true', Bool.or_eq_false_iff, Bool.not_eq_false'] at h; simp [h]; done) | (intros; simp_all; done) | (intros; simp_all; omega), ?_⟩)); refine hK _ ?_; clear hK K)
      refine ⟨_, _, ?_, ⟨k + 1, rfl, by omega, fun j hj => ?_, rfl⟩, Gh.le (by simp [push_cast, -List.getD_eq_getElem?_getD]) (by simp)⟩
      · omega
      · by_cases e : j = k
        · subst e; exact he
        · exact hf j (by omega)
  · have hk' : k = l.length := by simp at hc; omega
    subst hk'
    (repeat refine PWp.seq ?_); refine PWp.exit (iteT rfl ?_)
    ((repeat refine PWp.seq ?_); refine PWp.region TT (by rfl) (fun K hK => ?_); simp only [push_cast, beq_self_eq_true, Int.reduceBEq, Int.reduceToNat, Int.reduceAdd, Int.reduceSub, Nat.reduceBEq, Nat.reduceAdd, Nat.reduceMul, Nat.reduceLT, Nat.reduceSub, Nat.reduceEqDiff, Nat.reduceLeDiff, Bool.not_true, Bool.not_false, Bool.false_eq_true, false_implies, forall_const, Bool.true_beq, Bool.false_beq, beq_true, beq_false, implies_true, reduceCtorEq]; (repeat (refine ⟨by clear hK; first | omega | trivial | exact id | (intro h; rw [h]; rfl) | (intro h; exact ⟨h, h⟩) | (intros; decide) | (intro h; simp only [Bool.and_eq_true, Bool.not_eq_true', Bool.or_eq_false_iff, Bool.not_eq_false'] at h; simp [h]; done) | (intros; simp_all; done) | (intros; simp_all; omega), ?_⟩)); refine hK _ ?_; clear hK K)
    ((repeat refine PWp.seq ?_); refine PWp.ret ?_)
    refine ⟨.inr rfl, by omega, _, [], ?_, rfl, rfl⟩
    rw [idxL_none hf]
    (simp [push_cast, -List.getD_eq_getElem?_getD])
end Go.Proofs.Ytlpoajojkkfhhaa
