/- Walks of chapter 12: where a place is, by a function that is handed over. -/
import Derived.Test.YtjcdmdejhbmoeaaA3
namespace Go.Proofs.Ytjcdmdejhbmoeaa
open Go.PL
set_option maxRecDepth 100000
set_option linter.unusedSimpArgs false
set_option linter.unusedVariables false
/-- Where a number is the first one of a pair. -/
def idx1 (p : List (Int × Int)) (i : Int) : Int := match p.findIdx? (fun q => q.1 == i) with | some k => k | none => -1
theorem idx1_none {p : List (Int × Int)} {i : Int} (h : ∀ j < p.length, (p.getD j default).1 ≠ i) : idx1 p i = -1 := by
  unfold idx1
  rw [List.findIdx?_eq_none_iff.2]
  intro q hq
  obtain ⟨j, hj⟩ := List.getElem?_of_mem hq
  have hlt := (List.getElem?_eq_some_iff.1 hj).1
  have := h j hlt
  rw [List.getD_eq_getElem?_getD, hj] at this
  simpa using this
theorem idx1_some {p : List (Int × Int)} {i : Int} {k : Nat} (hk : k < p.length) (h : ∀ j < k, (p.getD j default).1 ≠ i) (he : (p.getD k default).1 = i) : idx1 p i = k := by
  have e : p.findIdx? (fun q => q.1 == i) = some k := by
    refine (List.findIdx?_eq_some_iff_getElem).2 ⟨hk, ?_, fun j hj => ?_⟩
    · simpa [List.getD, hk] using he
    · have := h j hj
      simpa [List.getD, show j < p.length by omega] using this
  unfold idx1
  rw [e]
theorem idx1_toI (p : List (Int × Int)) (i : Int) : (idx1 p i = -1 ∧ toI p i = none) ∨ ∃ k : Nat, idx1 p i = k ∧ k < p.length ∧ toI p i = some (p.getD k default).2 := by
  cases h : p.findIdx? (fun q => q.1 == i) with
  | none =>
    refine .inl ⟨by unfold idx1; rw [h], toI_none fun j hj => ?_⟩
    have := (List.findIdx?_eq_none_iff.1 h) p[j] (List.getElem_mem hj)
    simpa [List.getD, hj] using this
  | some k =>
    obtain ⟨hk, h1, h2⟩ := (List.findIdx?_eq_some_iff_getElem).1 h
    refine .inr ⟨k, by unfold idx1; rw [h], hk, toI_some hk (fun j hj => ?_) ?_⟩
    · have := h2 j hj
      simpa [List.getD, show j < p.length by omega] using this
    · simpa [List.getD, hk] using h1

theorem IndexFunc_To (p : List (Int × Int)) (i : Int) (hp : p.length ≤ 1000000) : PC Try.prog 54 [.iv (.sl 2 (p.map encP)), .clo 63 [.bptr 0 0]] [(0, .box 3 [.iv (.lit (.int .i64 i))])] 1 1
    (fun t obs => t = .iv (.lit (.int .i64 (idx1 p i))) ∧ obs = [(0, .box 3 [.iv (.lit (.int .i64 i))])]) := by
  refine PC.body [4] Try.func54 rfl (by rfl) (Nat.le_of_ble_eq_true (by rfl)) rfl ?_; simp only [enumA]
  ((repeat refine PWp.seq ?_); refine PWp.region TT (by rfl) (fun K hK => ?_); simp only [push_cast, beq_self_eq_true, Int.reduceBEq, Int.reduceToNat, Int.reduceAdd, Int.reduceSub, Nat.reduceBEq, Nat.reduceAdd, Nat.reduceMul, Nat.reduceLT, Nat.reduceSub, Nat.reduceEqDiff, Nat.reduceLeDiff, Bool.not_true, Bool.not_false, Bool.false_eq_true, false_implies, forall_const, Bool.true_beq, Bool.false_beq, beq_true, beq_false, implies_true, reduceCtorEq]; (repeat (refine ⟨by clear hK; first | omega | trivial | exact id | (intro h; rw [h]; rfl) | (intro h; exact ⟨h, h⟩) | (intros; decide) | (intro h; simp only [Bool.and_eq_true, Bool.not_eq_true', Bool.or_eq_false_iff, Bool.not_eq_false'] at h; simp [h]; done) | (intros; simp_all; done) | (intros; simp_all; omega), ?_⟩)); refine hK _ ?_; clear hK K)
  ((repeat refine PWp.seq ?_); refine PWp.region TT (by rfl) (fun K hK => ?_); simp only [push_cast, beq_self_eq_true, Int.reduceBEq, Int.reduceToNat, Int.reduceAdd, Int.reduceSub, Nat.reduceBEq, Nat.reduceAdd, Nat.reduceMul, Nat.reduceLT, Nat.reduceSub, Nat.reduceEqDiff, Nat.reduceLeDiff, Bool.not_true, Bool.not_false, Bool.false_eq_true, false_implies, forall_const, Bool.true_beq, Bool.false_beq, beq_true, beq_false, implies_true, reduceCtorEq]; (repeat (refine ⟨by clear hK; first | omega | trivial | exact id | (intro h; rw [h]; rfl) | (intro h; exact ⟨h, h⟩) | (intros; decide) | (intro h; simp only [Bool.and_eq_true, Bool.not_eq_true', Bool.or_eq_false_iff, Bool.not_eq_false'] at h; simp [h]; done) | (intros; simp_all; done) | (intros; simp_all; omega), ?_⟩)); refine hK _ ?_; clear hK K)
  ((repeat refine PWp.seq ?_); refine PWp.block ?_)
  refine PWp.loop (fun c st => ∃ k : Nat, c = p.length - k ∧ k ≤ p.length ∧ (∀ j < k, (p.getD j default).1 ≠ i) ∧
    st = ⟨[(0, .iv (.sl 2 (p.map encP))), (1, .clo 63 [.bptr 0 0]), (7, .iv (.lit (.int .i64 p.length))), (8, .iv (.lit (.int .i64 k)))], [(0, .box 3 [.iv (.lit (.int .i64 i))])], 1⟩) _ _ ⟨0, rfl, Nat.zero_le _, by simp, rfl⟩ (Gh.le (by simp [push_cast, -List.getD_eq_getElem?_getD]) (by simp)) ?_
  rintro c st ⟨k, rfl, hk, hf, rfl⟩
  ((repeat refine PWp.seq ?_); refine PWp.region TT (by rfl) (fun K hK => ?_); simp only [push_cast, beq_self_eq_true, Int.reduceBEq, Int.reduceToNat, Int.reduceAdd, Int.reduceSub, Nat.reduceBEq, Nat.reduceAdd, Nat.reduceMul, Nat.reduceLT, Nat.reduceSub, Nat.reduceEqDiff, Nat.reduceLeDiff, Bool.not_true, Bool.not_false, Bool.false_eq_true, false_implies, forall_const, Bool.true_beq, Bool.false_beq, beq_true, beq_false, implies_true, reduceCtorEq]; (repeat (refine ⟨by clear hK; first | omega | trivial | exact id | (intro h; rw [h]; rfl) | (intro h; exact ⟨h, h⟩) | (intros; decide) | (intro h; simp only [Bool.and_eq_true, Bool.not_eq_true', Bool.or_eq_false_iff, Bool.not_eq_false'] at h; simp [h]; done) | (intros; simp_all; done) | (intros; simp_all; omega), ?_⟩)); refine hK _ ?_; clear hK K)
  ((repeat refine PWp.seq ?_); refine PWp.cond (by simp only [push_cast, beq_self_eq_true, Int.reduceBEq, Int.reduceToNat, Int.reduceAdd, Int.reduceSub, Nat.reduceBEq, Nat.reduceAdd, Nat.reduceMul, Nat.reduceLT, Nat.reduceSub, Nat.reduceEqDiff, Nat.reduceLeDiff, Bool.not_true, Bool.not_false, Bool.false_eq_true, false_implies, forall_const, Bool.true_beq, Bool.false_beq, beq_true, beq_false, implies_true, reduceCtorEq]; rfl) (fun hc => ?_) (fun hc => ?_))
  · have hlt : k < p.length := by simpa using hc
    clear hc
    ((repeat refine PWp.seq ?_); refine PWp.skip ?_)
    ((repeat refine PWp.seq ?_); refine PWp.block ?_)
    ((repeat refine PWp.seq ?_); refine PWp.region TT (by rfl) (fun K hK => ?_); simp only [push_cast, beq_self_eq_true, Int.reduceBEq, Int.reduceToNat, Int.reduceAdd, Int.reduceSub, Nat.reduceBEq, Nat.reduceAdd, Nat.reduceMul, Nat.reduceLT, Nat.reduceSub, Nat.reduceEqDiff, Nat.reduceLeDiff, Bool.not_true, Bool.not_false, Bool.false_eq_true, false_implies, forall_const, Bool.true_beq, Bool.false_beq, beq_true, beq_false, implies_true, reduceCtorEq]; (repeat (refine ⟨by clear hK; first | omega | trivial | exact id | (intro h; rw [h]; rfl) | (intro h; exact ⟨h, h⟩) | (intros; decide) | (intro h; simp only [Bool.and_eq_true, Bool.not_eq_true', Bool.or_eq_false_iff, Bool.not_eq_false'] at h; simp [h]; done) | (intros; simp_all; done) | (intros; simp_all; omega), ?_⟩)); refine hK _ ?_; clear hK K)
    ((repeat refine PWp.seq ?_); refine PWp.region TT (by rfl) (fun K hK => ?_); simp only [push_cast, beq_self_eq_true, Int.reduceBEq, Int.reduceToNat, Int.reduceAdd, Int.reduceSub, Nat.reduceBEq, Nat.reduceAdd, Nat.reduceMul, Nat.reduceLT, Nat.reduceSub, Nat.reduceEqDiff, Nat.reduceLeDiff, Bool.not_true, Bool.not_false, Bool.false_eq_true, false_implies, forall_const, Bool.true_beq, Bool.false_beq, beq_true, beq_false, implies_true, reduceCtorEq, getD_map hlt])
    ((repeat (refine ⟨by clear hK; first | omega | trivial | exact id | (intro h; rw [h]; rfl) | (intro h; exact ⟨h, h⟩) | (intros; decide) | (intro h; simp only [Bool.and_eq_true, Bool.not_eq_true', Bool.or_eq_false_iff, Bool.not_eq_false'] at h; simp [h]; done) | (intros; simp_all; done) | (intros; simp_all; omega), ?_⟩)); refine PCall.use (To1 (p.getD k default) i) [0] rfl (by simp [push_cast]) (by simp) (by simp [push_cast]) (by simp [push_cast]) (by simp [push_cast]) (by simp [push_cast]) ?_)
    rintro _ _ ⟨rfl, rfl⟩
    (simp only [push_cast, beq_self_eq_true, Int.reduceBEq, Int.reduceToNat, Int.reduceAdd, Int.reduceSub, Nat.reduceBEq, Nat.reduceAdd, Nat.reduceMul, Nat.reduceLT, Nat.reduceSub, Nat.reduceEqDiff, Nat.reduceLeDiff, Bool.not_true, Bool.not_false, Bool.false_eq_true, false_implies, forall_const, Bool.true_beq, Bool.false_beq, beq_true, beq_false, implies_true, reduceCtorEq]; (repeat (refine ⟨by clear hK; first | omega | trivial | exact id | (intro h; rw [h]; rfl) | (intro h; exact ⟨h, h⟩) | (intros; decide) | (intro h; simp only [Bool.and_eq_true, Bool.not_eq_true', Bool.or_eq_false_iff, Bool.not_eq_false'] at h; simp [h]; done) | (intros; simp_all; done) | (intros; simp_all; omega), ?_⟩)); refine hK _ ?_; clear hK K)
    ((repeat refine PWp.seq ?_); refine PWp.cond (by simp only [push_cast, beq_self_eq_true, Int.reduceBEq, Int.reduceToNat, Int.reduceAdd, Int.reduceSub, Nat.reduceBEq, Nat.reduceAdd, Nat.reduceMul, Nat.reduceLT, Nat.reduceSub, Nat.reduceEqDiff, Nat.reduceLeDiff, Bool.not_true, Bool.not_false, Bool.false_eq_true, false_implies, forall_const, Bool.true_beq, Bool.false_beq, beq_true, beq_false, implies_true, reduceCtorEq]; rfl) (fun hc => ?_) (fun hc => ?_))
    · ((repeat refine PWp.seq ?_); refine PWp.region TT (by rfl) (fun K hK => ?_); simp only [push_cast, beq_self_eq_true, Int.reduceBEq, Int.reduceToNat, Int.reduceAdd, Int.reduceSub, Nat.reduceBEq, Nat.reduceAdd, Nat.reduceMul, Nat.reduceLT, Nat.reduceSub, Nat.reduceEqDiff, Nat.reduceLeDiff, Bool.not_true, Bool.not_false, Bool.false_eq_true, false_implies, forall_const, Bool.true_beq, Bool.false_beq, beq_true, beq_false, implies_true, reduceCtorEq]; (repeat (refine ⟨by clear hK; first | omega | trivial | exact id | (intro h; rw [h]; rfl) | (intro h; exact ⟨h, h⟩) | (intros; decide) | (intro h; simp only [Bool.and_eq_true, Bool.not_eq_true', Bool.or_eq_false_iff, Bool.not_eq_false'] at h; simp [h]; done) | (intros; simp_all; done) | (intros; simp_all; omega), ?_⟩)); refine hK _ ?_; clear hK K)
      ((repeat refine PWp.seq ?_); refine PWp.ret ?_)
      refine ⟨.inr rfl, Nat.le_refl _, _, _, ?_, rfl, rfl⟩
      rw [idx1_some hlt hf (by simpa using hc)]
      (simp [push_cast, -List.getD_eq_getElem?_getD])
    · ((repeat refine PWp.seq ?_); refine PWp.skip ?_)
      ((repeat refine PWp.seq ?_); refine PWp.region TT (by rfl) (fun K hK => ?_); simp only [push_cast, beq_self_eq_true, Int.reduceBEq, Int.reduceToNat, Int.reduceAdd, Int.reduceSub, Nat.reduceBEq, Nat.reduceAdd, Nat.reduceMul, Nat.reduceLT, Nat.reduceSub, Nat.reduceEqDiff, Nat.reduceLeDiff, Bool.not_true, Bool.not_false, Bool.false_eq_true, false_implies, forall_const, Bool.true_beq, Bool.false_beq, beq_true, beq_false, implies_true, reduceCtorEq, wrap64_id (n := (k : Int) + 1) (by omega) (by omega)]; (repeat (refine ⟨by clear hK; first | omega | trivial | exact id | (intro h; rw [h]; rfl) | (intro h; exact ⟨h, h⟩) | (intros; decide) | (intro h; simp only [Bool.and_eq_true, Bool.not_eq_true', Bool.or_eq_false_iff, Bool.not_eq_false'] at h; simp [h]; done) | (intros; simp_all; done) | (intros; simp_all; omega), ?_⟩)); refine hK _ ?_; clear hK K)
      refine ⟨_, _, ?_, ⟨k + 1, rfl, by omega, fun j hj => ?_, rfl⟩, Gh.le (by simp [push_cast, -List.getD_eq_getElem?_getD]) (by simp)⟩
      · omega
      · by_cases e : j = k
        · subst e; simpa using hc
        · exact hf j (by omega)
  · have hk' : k = p.length := by simp at hc; omega
    subst hk'
    (repeat refine PWp.seq ?_); refine PWp.exit (iteT rfl ?_)
    ((repeat refine PWp.seq ?_); refine PWp.region TT (by rfl) (fun K hK => ?_); simp only [push_cast, beq_self_eq_true, Int.reduceBEq, Int.reduceToNat, Int.reduceAdd, Int.reduceSub, Nat.reduceBEq, Nat.reduceAdd, Nat.reduceMul, Nat.reduceLT, Nat.reduceSub, Nat.reduceEqDiff, Nat.reduceLeDiff, Bool.not_true, Bool.not_false, Bool.false_eq_true, false_implies, forall_const, Bool.true_beq, Bool.false_beq, beq_true, beq_false, implies_true, reduceCtorEq]; (repeat (refine ⟨by clear hK; first | omega | trivial | exact id | (intro h; rw [h]; rfl) | (intro h; exact ⟨h, h⟩) | (intros; decide) | (intro h; simp only [Bool.and_eq_true, Bool.not_eq_true', Bool.or_eq_false_iff, Bool.not_eq_false'] at h; simp [h]; done) | (intros; simp_all; done) | (intros; simp_all; omega), ?_⟩)); refine hK _ ?_; clear hK K)
    ((repeat refine PWp.seq ?_); refine PWp.ret ?_)
    refine ⟨.inr rfl, Nat.le_refl _, _, _, ?_, rfl, rfl⟩
    rw [idx1_none hf]
    (simp [push_cast, -List.getD_eq_getElem?_getD])

theorem match_To (p : List (Int × Int)) (i : Int) (hp : p.length ≤ 1000000) : PC Try.prog 62 [.iv (.sl 2 (p.map encP)), .iv (.lit (.int .i64 i))] [] 0 0 (fun t obs => t = .tup [.iv (.lit (.int .i64 ((toI p i).getD 0))), .iv (.lit (.bool (toI p i).isSome))] ∧ obs = []) := by
  refine PC.body [4, 5] Try.func62 rfl (by rfl) (Nat.le_of_ble_eq_true (by rfl)) rfl ?_; simp only [enumA]
  ((repeat refine PWp.seq ?_); refine PWp.region TT (by rfl) (fun K hK => ?_); simp only [push_cast, beq_self_eq_true, Int.reduceBEq, Int.reduceToNat, Int.reduceAdd, Int.reduceSub, Nat.reduceBEq, Nat.reduceAdd, Nat.reduceMul, Nat.reduceLT, Nat.reduceSub, Nat.reduceEqDiff, Nat.reduceLeDiff, Bool.not_true, Bool.not_false, Bool.false_eq_true, false_implies, forall_const, Bool.true_beq, Bool.false_beq, beq_true, beq_false, implies_true, reduceCtorEq]; (repeat (refine ⟨by clear hK; first | omega | trivial | exact id | (intro h; rw [h]; rfl) | (intro h; exact ⟨h, h⟩) | (intros; decide) | (intro h; simp only [Bool.and_eq_true, Bool.not_eq_true', Bool.or_eq_false_iff, Bool.not_eq_false'] at h; simp [h]; done) | (intros; simp_all; done) | (intros; simp_all; omega), ?_⟩)); refine hK _ ?_; clear hK K)
  ((repeat refine PWp.seq ?_); refine PWp.region TT (by rfl) (fun K hK => ?_); simp only [push_cast, beq_self_eq_true, Int.reduceBEq, Int.reduceToNat, Int.reduceAdd, Int.reduceSub, Nat.reduceBEq, Nat.reduceAdd, Nat.reduceMul, Nat.reduceLT, Nat.reduceSub, Nat.reduceEqDiff, Nat.reduceLeDiff, Bool.not_true, Bool.not_false, Bool.false_eq_true, false_implies, forall_const, Bool.true_beq, Bool.false_beq, beq_true, beq_false, implies_true, reduceCtorEq])
  ((repeat (refine ⟨by clear hK; first | omega | trivial | exact id | (intro h; rw [h]; rfl) | (intro h; exact ⟨h, h⟩) | (intros; decide) | (intro h; simp only [Bool.and_eq_true, Bool.not_eq_true', Bool.or_eq_false_iff, Bool.not_eq_false'] at h; simp [h]; done) | (intros; simp_all; done) | (intros; simp_all; omega), ?_⟩)); refine PCall.use (IndexFunc_To p i hp) [0] rfl (by simp [push_cast]) (by simp) (by simp [push_cast]) (by simp [push_cast]) (by simp [push_cast]) (by simp [push_cast]) ?_)
  rintro _ _ ⟨rfl, rfl⟩
  (simp only [push_cast, beq_self_eq_true, Int.reduceBEq, Int.reduceToNat, Int.reduceAdd, Int.reduceSub, Nat.reduceBEq, Nat.reduceAdd, Nat.reduceMul, Nat.reduceLT, Nat.reduceSub, Nat.reduceEqDiff, Nat.reduceLeDiff, Bool.not_true, Bool.not_false, Bool.false_eq_true, false_implies, forall_const, Bool.true_beq, Bool.false_beq, beq_true, beq_false, implies_true, reduceCtorEq]; (repeat (refine ⟨by clear hK; first | omega | trivial | exact id | (intro h; rw [h]; rfl) | (intro h; exact ⟨h, h⟩) | (intros; decide) | (intro h; simp only [Bool.and_eq_true, Bool.not_eq_true', Bool.or_eq_false_iff, Bool.not_eq_false'] at h; simp [h]; done) | (intros; simp_all; done) | (intros; simp_all; omega), ?_⟩)); refine hK _ ?_; clear hK K)
  ((repeat refine PWp.seq ?_); refine PWp.region TT (by rfl) (fun K hK => ?_); simp only [push_cast, beq_self_eq_true, Int.reduceBEq, Int.reduceToNat, Int.reduceAdd, Int.reduceSub, Nat.reduceBEq, Nat.reduceAdd, Nat.reduceMul, Nat.reduceLT, Nat.reduceSub, Nat.reduceEqDiff, Nat.reduceLeDiff, Bool.not_true, Bool.not_false, Bool.false_eq_true, false_implies, forall_const, Bool.true_beq, Bool.false_beq, beq_true, beq_false, implies_true, reduceCtorEq]; (repeat (refine ⟨by clear hK; first | omega | trivial | exact id | (intro h; rw [h]; rfl) | (intro h; exact ⟨h, h⟩) | (intros; decide) | (intro h; simp only [Bool.and_eq_true, Bool.not_eq_true', Bool.or_eq_false_iff, Bool.not_eq_false'] at h; simp [h]; done) | (intros; simp_all; done) | (intros; simp_all; omega), ?_⟩)); refine hK _ ?_; clear hK K)
  ((repeat refine PWp.seq ?_); refine PWp.cond (by simp only [push_cast, beq_self_eq_true, Int.reduceBEq, Int.reduceToNat, Int.reduceAdd, Int.reduceSub, Nat.reduceBEq, Nat.reduceAdd, Nat.reduceMul, Nat.reduceLT, Nat.reduceSub, Nat.reduceEqDiff, Nat.reduceLeDiff, Bool.not_true, Bool.not_false, Bool.false_eq_true, false_implies, forall_const, Bool.true_beq, Bool.false_beq, beq_true, beq_false, implies_true, reduceCtorEq]; rfl) (fun hc => ?_) (fun hc => ?_))
  · have hc' : toI p i = none := by
      rcases idx1_toI p i with ⟨h, h'⟩ | ⟨k, h, h', h''⟩
      · exact h'
      · rw [h] at hc; simp at hc; omega
    ((repeat refine PWp.seq ?_); refine PWp.region TT (by rfl) (fun K hK => ?_); simp only [push_cast, beq_self_eq_true, Int.reduceBEq, Int.reduceToNat, Int.reduceAdd, Int.reduceSub, Nat.reduceBEq, Nat.reduceAdd, Nat.reduceMul, Nat.reduceLT, Nat.reduceSub, Nat.reduceEqDiff, Nat.reduceLeDiff, Bool.not_true, Bool.not_false, Bool.false_eq_true, false_implies, forall_const, Bool.true_beq, Bool.false_beq, beq_true, beq_false, implies_true, reduceCtorEq]; (repeat (refine ⟨by clear hK; first | omega | trivial | exact id | (intro h; rw [h]; rfl) | (intro h; exact ⟨h, h⟩) | (intros; decide) | (intro h; simp only [Bool.and_eq_true, Bool.not_eq_true', Bool.or_eq_false_iff, Bool.not_eq_false'] at h; simp [h]; done) | (intros; simp_all; done) | (intros; simp_all; omega), ?_⟩)); refine hK _ ?_; clear hK K)
    ((repeat refine PWp.seq ?_); refine PWp.ret ?_)
    refine ⟨.inr rfl, Nat.le_refl _, _, [], ?_, rfl, rfl⟩
    rw [hc']
    (simp [push_cast, -List.getD_eq_getElem?_getD])
  · have hc' : ∃ k : Nat, idx1 p i = k ∧ k < p.length ∧ toI p i = some (p.getD k default).2 := by
      rcases idx1_toI p i with ⟨h, h'⟩ | h
      · rw [h] at hc; simp at hc
      · exact h
    obtain ⟨k, h1, h2, h3⟩ := hc'
    rw [h1]
    ((repeat refine PWp.seq ?_); refine PWp.skip ?_)
    ((repeat refine PWp.seq ?_); refine PWp.region TT (by rfl) (fun K hK => ?_); simp only [push_cast, beq_self_eq_true, Int.reduceBEq, Int.reduceToNat, Int.reduceAdd, Int.reduceSub, Nat.reduceBEq, Nat.reduceAdd, Nat.reduceMul, Nat.reduceLT, Nat.reduceSub, Nat.reduceEqDiff, Nat.reduceLeDiff, Bool.not_true, Bool.not_false, Bool.false_eq_true, false_implies, forall_const, Bool.true_beq, Bool.false_beq, beq_true, beq_false, implies_true, reduceCtorEq, getD_map h2]; (repeat (refine ⟨by clear hK; first | omega | trivial | exact id | (intro h; rw [h]; rfl) | (intro h; exact ⟨h, h⟩) | (intros; decide) | (intro h; simp only [Bool.and_eq_true, Bool.not_eq_true', Bool.or_eq_false_iff, Bool.not_eq_false'] at h; simp [h]; done) | (intros; simp_all; done) | (intros; simp_all; omega), ?_⟩)); refine hK _ ?_; clear hK K)
    ((repeat refine PWp.seq ?_); refine PWp.ret ?_)
    refine ⟨.inr rfl, Nat.le_refl _, _, [], ?_, rfl, rfl⟩
    rw [h3]
    (simp [push_cast, -List.getD_eq_getElem?_getD])
end Go.Proofs.Ytjcdmdejhbmoeaa
