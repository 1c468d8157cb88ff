/- Walks of chapter 38: how far lines move, and what touches. -/
import Derived.Test.YtjjgnopebokfoaaF2
namespace Go.Proofs.Ytjjgnopebokfoaa
open Go.PL
set_option maxRecDepth 100000
set_option linter.unusedSimpArgs false
set_option linter.unusedVariables false
def grow1 (s : Sb) : Int := (s.in_.length : Int) - s.out.length
def growL : List Sb → Int
  | [] => 0
  | s :: l => grow1 s + growL l
def endS (s : Sb) : Int := s.at_ + s.out.length
/-- How many more lines those put in that stand ahead of a place. -/
def aheadL (a : Int) : List Sb → Int
  | [] => 0
  | s :: l => (if endS s < a then grow1 s else 0) + aheadL a l
theorem grow1_b {s : Sb} (h : smS s) : -100000 ≤ grow1 s ∧ grow1 s ≤ 100000 := by unfold smS at h; unfold grow1; omega
theorem growL_b : ∀ (l : List Sb), (∀ s ∈ l, smS s) → -(100000 * (l.length : Int)) ≤ growL l ∧ growL l ≤ 100000 * (l.length : Int)
  | [], _ => by simp [growL]
  | s :: l, h => by
    have h1 := grow1_b (h s (List.mem_cons_self ..))
    have h2 := growL_b l (fun x hx => h x (List.mem_cons_of_mem _ hx))
    simp only [growL, List.length_cons]
    push_cast
    omega
theorem aheadL_b (a : Int) : ∀ (l : List Sb), (∀ s ∈ l, smS s) → -(100000 * (l.length : Int)) ≤ aheadL a l ∧ aheadL a l ≤ 100000 * (l.length : Int)
  | [], _ => by simp [aheadL]
  | s :: l, h => by
    have h1 := grow1_b (h s (List.mem_cons_self ..))
    have h2 := aheadL_b a l (fun x hx => h x (List.mem_cons_of_mem _ hx))
    simp only [aheadL, List.length_cons]
    push_cast
    split <;> omega
theorem growL_append (l k : List Sb) : growL (l ++ k) = growL l + growL k := by
  induction l with
  | nil => simp [growL]
  | cons s l ih => simp [growL, ih]; omega
theorem aheadL_append (a : Int) (l k : List Sb) : aheadL a (l ++ k) = aheadL a l + aheadL a k := by
  induction l with
  | nil => simp [aheadL]
  | cons s l ih => simp only [List.cons_append, aheadL, ih]; omega
theorem smP_take {l : List Sb} (h : smP l) (k : Nat) : smP (l.take k) := ⟨by rw [List.length_take]; have := h.1; omega, fun s hs => h.2 s (List.mem_of_mem_take hs)⟩
theorem growT_b {l : List Sb} (h : smP l) (k : Nat) : -100000000 ≤ growL (l.take k) ∧ growL (l.take k) ≤ 100000000 := by
  have h1 := smP_take h k
  have := growL_b _ h1.2
  have h2 := h1.1
  generalize (l.take k).length = n at *
  omega
theorem aheadT_b {l : List Sb} (h : smP l) (a : Int) (k : Nat) : -100000000 ≤ aheadL a (l.take k) ∧ aheadL a (l.take k) ≤ 100000000 := by
  have h1 := smP_take h k
  have := aheadL_b a _ h1.2
  have h2 := h1.1
  generalize (l.take k).length = n at *
  omega

theorem shift_Grows (l : List Sb) (h : smP l) : PC Try.prog 22 [iP l] [] 0 0 (fun t obs => t = iI (growL l) ∧ obs = []) := by
  have hl := h.1
  refine PC.body [2] Try.func22 rfl (by rfl) (Nat.le_of_ble_eq_true (by rfl)) rfl ?_; simp only [enumA]
  ((repeat refine PWp.seq ?_); refine PWp.region TT (by rfl) (fun K hK => ?_); simp only [push_cast, seval, Nat.reduceEqDiff, Nat.reduceLeDiff, reduceCtorEq]; (repeat refine sk ?_); refine hK _ ?_; clear hK K)
  ((repeat refine PWp.seq ?_); refine PWp.region TT (by rfl) (fun K hK => ?_); simp only [push_cast, seval, Nat.reduceEqDiff, Nat.reduceLeDiff, reduceCtorEq]; (repeat refine sk ?_); refine hK _ ?_; clear hK K)
  ((repeat refine PWp.seq ?_); refine PWp.region TT (by rfl) (fun K hK => ?_); simp only [push_cast, seval, Nat.reduceEqDiff, Nat.reduceLeDiff, reduceCtorEq]; (repeat refine sk ?_); refine hK _ ?_; clear hK K)
  ((repeat refine PWp.seq ?_); refine PWp.block ?_)
  refine PWp.loop (fun c st => ∃ k : Nat, c = l.length - k ∧ k ≤ l.length ∧
    st = ⟨[(3, iI (growL (l.take k))), (6, iP l), (7, iI l.length), (8, iI k)], [], 0⟩) _ _ ⟨0, rfl, Nat.zero_le _, rfl⟩ (Gh.le (by simp [push_cast, -List.getD_eq_getElem?_getD, growL]) (by simp)) ?_
  rintro c st ⟨k, rfl, hk, rfl⟩
  ((repeat refine PWp.seq ?_); refine PWp.region TT (by rfl) (fun K hK => ?_); simp only [push_cast, seval, Nat.reduceEqDiff, Nat.reduceLeDiff, reduceCtorEq]; (repeat refine sk ?_); refine hK _ ?_; clear hK K)
  ((repeat refine PWp.seq ?_); refine PWp.cond (by simp only [push_cast, seval, Nat.reduceEqDiff, Nat.reduceLeDiff, reduceCtorEq]; rfl) (fun hc => ?_) (fun hc => ?_))
  · have hlt : k < l.length := by simpa using hc
    clear hc
    have hsk := h.2 _ (getD_mem hlt)
    have g1 := growT_b h k
    have g2 := grow1_b hsk
    have e : growL (l.take (k + 1)) = growL (l.take k) + grow1 (l.getD k default) := by
      rw [take_succ_getD hlt, growL_append]; simp [growL]
    ((repeat refine PWp.seq ?_); refine PWp.skip ?_)
    ((repeat refine PWp.seq ?_); refine PWp.block ?_)
    ((repeat refine PWp.seq ?_); refine PWp.region TT (by rfl) (fun K hK => ?_); simp only [push_cast, seval, Nat.reduceEqDiff, Nat.reduceLeDiff, reduceCtorEq, getD_map hlt]; (repeat refine sk ?_); refine hK _ ?_; clear hK K)
    ((repeat refine PWp.seq ?_); refine PWp.region TT (by rfl) (fun K hK => ?_); simp only [push_cast, seval, Nat.reduceEqDiff, Nat.reduceLeDiff, reduceCtorEq])
    ((repeat refine sk ?_); refine PCall.use (shift_grows (l.getD k default) hsk) [] rfl (by simp [push_cast]) (by simp) (by simp [push_cast]) (by simp [push_cast]) (by simp [push_cast]) (by simp [push_cast]) ?_)
    rintro _ _ ⟨rfl, rfl⟩
    rw [show ((l.getD k default).in_.length : Int) - ((l.getD k default).out.length : Int) = grow1 (l.getD k default) from rfl]
    (simp only [push_cast, seval, Nat.reduceEqDiff, Nat.reduceLeDiff, reduceCtorEq, wrap64_id (n := growL (l.take k) + grow1 (l.getD k default)) (by omega) (by omega)]; (repeat refine sk ?_); refine hK _ ?_; clear hK K)
    ((repeat refine PWp.seq ?_); refine PWp.region TT (by rfl) (fun K hK => ?_); simp only [push_cast, seval, Nat.reduceEqDiff, Nat.reduceLeDiff, reduceCtorEq, wrap64_id (n := (k : Int) + 1) (by omega) (by omega)]; (repeat refine sk ?_); refine hK _ ?_; clear hK K)
    refine ⟨_, _, ?_, ⟨k + 1, rfl, by omega, rfl⟩, Gh.le (by simp [push_cast, -List.getD_eq_getElem?_getD, e]) (by simp)⟩
    omega
  · have hk' : k = l.length := by simp at hc; omega
    subst hk'
    (repeat refine PWp.seq ?_); refine PWp.exit (iteT rfl ?_)
    ((repeat refine PWp.seq ?_); refine PWp.region TT (by rfl) (fun K hK => ?_); simp only [push_cast, seval, Nat.reduceEqDiff, Nat.reduceLeDiff, reduceCtorEq]; (repeat refine sk ?_); refine hK _ ?_; clear hK K)
    ((repeat refine PWp.seq ?_); refine PWp.ret ?_)
    refine ⟨.inr rfl, by omega, _, [], ?_, rfl, rfl⟩
    (simp [push_cast, -List.getD_eq_getElem?_getD])
theorem ref38_Grows (l : List Sb) (h : smP l) : PC Try.prog 23 [iP l] [] 0 0 (fun t obs => t = iI (growL l) ∧ obs = []) := by
  have hl := h.1
  refine PC.body [2] Try.func23 rfl (by rfl) (Nat.le_of_ble_eq_true (by rfl)) rfl ?_; simp only [enumA]
  ((repeat refine PWp.seq ?_); refine PWp.region TT (by rfl) (fun K hK => ?_); simp only [push_cast, seval, Nat.reduceEqDiff, Nat.reduceLeDiff, reduceCtorEq]; (repeat refine sk ?_); refine hK _ ?_; clear hK K)
  ((repeat refine PWp.seq ?_); refine PWp.region TT (by rfl) (fun K hK => ?_); simp only [push_cast, seval, Nat.reduceEqDiff, Nat.reduceLeDiff, reduceCtorEq]; (repeat refine sk ?_); refine hK _ ?_; clear hK K)
  ((repeat refine PWp.seq ?_); refine PWp.region TT (by rfl) (fun K hK => ?_); simp only [push_cast, seval, Nat.reduceEqDiff, Nat.reduceLeDiff, reduceCtorEq]; (repeat refine sk ?_); refine hK _ ?_; clear hK K)
  ((repeat refine PWp.seq ?_); refine PWp.block ?_)
  refine PWp.loop (fun c st => ∃ k : Nat, c = l.length - k ∧ k ≤ l.length ∧
    st = ⟨[(0, iP l), (3, iI (growL (l.take k))), (4, iI k)], [], 0⟩) _ _ ⟨0, rfl, Nat.zero_le _, rfl⟩ (Gh.le (by simp [push_cast, -List.getD_eq_getElem?_getD, growL]) (by simp)) ?_
  rintro c st ⟨k, rfl, hk, rfl⟩
  ((repeat refine PWp.seq ?_); refine PWp.region TT (by rfl) (fun K hK => ?_); simp only [push_cast, seval, Nat.reduceEqDiff, Nat.reduceLeDiff, reduceCtorEq]; (repeat refine sk ?_); refine hK _ ?_; clear hK K)
  ((repeat refine PWp.seq ?_); refine PWp.cond (by simp only [push_cast, seval, Nat.reduceEqDiff, Nat.reduceLeDiff, reduceCtorEq]; rfl) (fun hc => ?_) (fun hc => ?_))
  · have hlt : k < l.length := by simpa using hc
    clear hc
    have hsk := h.2 _ (getD_mem hlt)
    have hsm := hsk
    unfold smS at hsm
    have g1 := growT_b h k
    have g2 := grow1_b hsk
    have e : growL (l.take (k + 1)) = growL (l.take k) + ((l.getD k default).in_.length : Int) - ((l.getD k default).out.length : Int) := by
      rw [take_succ_getD hlt, growL_append]; simp [growL, grow1]; omega
    ((repeat refine PWp.seq ?_); refine PWp.skip ?_)
    ((repeat refine PWp.seq ?_); refine PWp.block ?_)
    ((repeat refine PWp.seq ?_); refine PWp.draw TT (by kernel_rfl) (by kernel_rfl) (by rfl) (by rfl) (fun K hK => ?_); simp only [push_cast, seval, Nat.reduceEqDiff, Nat.reduceLeDiff, reduceCtorEq, getD_map hlt, wrap64_id (n := growL (l.take k) + ((l.getD k default).in_.length : Int)) (by omega) (by omega), wrap64_id (n := growL (l.take k) + ((l.getD k default).in_.length : Int) - ((l.getD k default).out.length : Int)) (by omega) (by omega)]; (repeat refine sk ?_); refine hK _ ?_; clear hK K)
    ((repeat refine PWp.seq ?_); refine PWp.region TT (by rfl) (fun K hK => ?_); simp only [push_cast, seval, Nat.reduceEqDiff, Nat.reduceLeDiff, reduceCtorEq, wrap64_id (n := (k : Int) + 1) (by omega) (by omega)]; (repeat refine sk ?_); refine hK _ ?_; clear hK K)
    refine ⟨_, _, ?_, ⟨k + 1, rfl, by omega, rfl⟩, Gh.le (by simp [push_cast, -List.getD_eq_getElem?_getD, e]) (by simp)⟩
    omega
  · have hk' : k = l.length := by simp at hc; omega
    subst hk'
    (repeat refine PWp.seq ?_); refine PWp.exit (iteT rfl ?_)
    ((repeat refine PWp.seq ?_); refine PWp.region TT (by rfl) (fun K hK => ?_); simp only [push_cast, seval, Nat.reduceEqDiff, Nat.reduceLeDiff, reduceCtorEq]; (repeat refine sk ?_); refine hK _ ?_; clear hK K)
    ((repeat refine PWp.seq ?_); refine PWp.ret ?_)
    refine ⟨.inr rfl, by omega, _, [], ?_, rfl, rfl⟩
    (simp [push_cast, -List.getD_eq_getElem?_getD])
theorem shift_ahead (l : List Sb) (a : Int) (h : smP l) : PC Try.prog 31 [iP l, iI a] [] 0 0 (fun t obs => t = iI (aheadL a l) ∧ obs = []) := by
  have hl := h.1
  refine PC.body [4] Try.func31 rfl (by rfl) (Nat.le_of_ble_eq_true (by rfl)) rfl ?_; simp only [enumA]
  ((repeat refine PWp.seq ?_); refine PWp.region TT (by rfl) (fun K hK => ?_); simp only [push_cast, seval, Nat.reduceEqDiff, Nat.reduceLeDiff, reduceCtorEq]; (repeat refine sk ?_); refine hK _ ?_; clear hK K)
  ((repeat refine PWp.seq ?_); refine PWp.region TT (by rfl) (fun K hK => ?_); simp only [push_cast, seval, Nat.reduceEqDiff, Nat.reduceLeDiff, reduceCtorEq]; (repeat refine sk ?_); refine hK _ ?_; clear hK K)
  ((repeat refine PWp.seq ?_); refine PWp.region TT (by rfl) (fun K hK => ?_); simp only [push_cast, seval, Nat.reduceEqDiff, Nat.reduceLeDiff, reduceCtorEq]; (repeat refine sk ?_); refine hK _ ?_; clear hK K)
  ((repeat refine PWp.seq ?_); refine PWp.block ?_)
  refine PWp.loop (fun c st => ∃ k : Nat, c = l.length - k ∧ k ≤ l.length ∧
    st = ⟨[(1, iI a), (5, iI (aheadL a (l.take k))), (8, iP l), (9, iI l.length), (10, iI k)], [], 0⟩) _ _ ⟨0, rfl, Nat.zero_le _, rfl⟩ (Gh.le (by simp [push_cast, -List.getD_eq_getElem?_getD, aheadL]) (by simp)) ?_
  rintro c st ⟨k, rfl, hk, rfl⟩
  ((repeat refine PWp.seq ?_); refine PWp.region TT (by rfl) (fun K hK => ?_); simp only [push_cast, seval, Nat.reduceEqDiff, Nat.reduceLeDiff, reduceCtorEq]; (repeat refine sk ?_); refine hK _ ?_; clear hK K)
  ((repeat refine PWp.seq ?_); refine PWp.cond (by simp only [push_cast, seval, Nat.reduceEqDiff, Nat.reduceLeDiff, reduceCtorEq]; rfl) (fun hc => ?_) (fun hc => ?_))
  · have hlt : k < l.length := by simpa using hc
    clear hc
    have hsk := h.2 _ (getD_mem hlt)
    have g1 := aheadT_b h a k
    have g2 := grow1_b hsk
    have e : aheadL a (l.take (k + 1)) = aheadL a (l.take k) + (if endS (l.getD k default) < a then grow1 (l.getD k default) else 0) := by
      rw [take_succ_getD hlt, aheadL_append]; simp [aheadL]
    ((repeat refine PWp.seq ?_); refine PWp.skip ?_)
    ((repeat refine PWp.seq ?_); refine PWp.block ?_)
    ((repeat refine PWp.seq ?_); refine PWp.region TT (by rfl) (fun K hK => ?_); simp only [push_cast, seval, Nat.reduceEqDiff, Nat.reduceLeDiff, reduceCtorEq, getD_map hlt]; (repeat refine sk ?_); refine hK _ ?_; clear hK K)
    ((repeat refine PWp.seq ?_); refine PWp.region TT (by rfl) (fun K hK => ?_); simp only [push_cast, seval, Nat.reduceEqDiff, Nat.reduceLeDiff, reduceCtorEq])
    ((repeat refine sk ?_); refine PCall.use (shift_end (l.getD k default) hsk) [] rfl (by simp [push_cast]) (by simp) (by simp [push_cast]) (by simp [push_cast]) (by simp [push_cast]) (by simp [push_cast]) ?_)
    rintro _ _ ⟨rfl, rfl⟩
    rw [show (l.getD k default).at_ + ((l.getD k default).out.length : Int) = endS (l.getD k default) from rfl]
    (simp only [push_cast, seval, Nat.reduceEqDiff, Nat.reduceLeDiff, reduceCtorEq]; (repeat refine sk ?_); refine hK _ ?_; clear hK K)
    ((repeat refine PWp.seq ?_); refine PWp.cond (by simp only [push_cast, seval, Nat.reduceEqDiff, Nat.reduceLeDiff, reduceCtorEq]; rfl) (fun hc => ?_) (fun hc => ?_))
    · simp only [Bool.or_eq_true, Bool.and_eq_true, Bool.not_eq_true', Bool.not_eq_false', Bool.or_eq_false_iff, Bool.and_eq_false_iff, decide_eq_true_eq, decide_eq_false_iff_not, beq_iff_eq, beq_eq_false_iff_ne, bne_iff_ne, bne_eq_false_iff_eq, ne_eq, Classical.not_not, Int.not_lt, Int.not_le, ge_iff_le, gt_iff_lt] at hc
      rw [if_pos hc] at e
      ((repeat refine PWp.seq ?_); refine PWp.region TT (by rfl) (fun K hK => ?_); simp only [push_cast, seval, Nat.reduceEqDiff, Nat.reduceLeDiff, reduceCtorEq])
      ((repeat refine sk ?_); refine PCall.use (shift_grows (l.getD k default) hsk) [] rfl (by simp [push_cast]) (by simp) (by simp [push_cast]) (by simp [push_cast]) (by simp [push_cast]) (by simp [push_cast]) ?_)
      rintro _ _ ⟨rfl, rfl⟩
      rw [show ((l.getD k default).in_.length : Int) - ((l.getD k default).out.length : Int) = grow1 (l.getD k default) from rfl]
      (simp only [push_cast, seval, Nat.reduceEqDiff, Nat.reduceLeDiff, reduceCtorEq, wrap64_id (n := aheadL a (l.take k) + grow1 (l.getD k default)) (by omega) (by omega)]; (repeat refine sk ?_); refine hK _ ?_; clear hK K)
      ((repeat refine PWp.seq ?_); refine PWp.region TT (by rfl) (fun K hK => ?_); simp only [push_cast, seval, Nat.reduceEqDiff, Nat.reduceLeDiff, reduceCtorEq, wrap64_id (n := (k : Int) + 1) (by omega) (by omega)]; (repeat refine sk ?_); refine hK _ ?_; clear hK K)
      refine ⟨_, _, ?_, ⟨k + 1, rfl, by omega, rfl⟩, Gh.le (by simp [push_cast, -List.getD_eq_getElem?_getD, e]) (by simp)⟩
      omega
    · simp only [Bool.or_eq_true, Bool.and_eq_true, Bool.not_eq_true', Bool.not_eq_false', Bool.or_eq_false_iff, Bool.and_eq_false_iff, decide_eq_true_eq, decide_eq_false_iff_not, beq_iff_eq, beq_eq_false_iff_ne, bne_iff_ne, bne_eq_false_iff_eq, ne_eq, Classical.not_not, Int.not_lt, Int.not_le, ge_iff_le, gt_iff_lt] at hc
      rw [if_neg (by omega), Int.add_zero] at e
      ((repeat refine PWp.seq ?_); refine PWp.skip ?_)
      ((repeat refine PWp.seq ?_); refine PWp.region TT (by rfl) (fun K hK => ?_); simp only [push_cast, seval, Nat.reduceEqDiff, Nat.reduceLeDiff, reduceCtorEq, wrap64_id (n := (k : Int) + 1) (by omega) (by omega)]; (repeat refine sk ?_); refine hK _ ?_; clear hK K)
      refine ⟨_, _, ?_, ⟨k + 1, rfl, by omega, rfl⟩, Gh.le (by simp [push_cast, -List.getD_eq_getElem?_getD, e]) (by simp)⟩
      omega
  · have hk' : k = l.length := by simp at hc; omega
    subst hk'
    (repeat refine PWp.seq ?_); refine PWp.exit (iteT rfl ?_)
    ((repeat refine PWp.seq ?_); refine PWp.region TT (by rfl) (fun K hK => ?_); simp only [push_cast, seval, Nat.reduceEqDiff, Nat.reduceLeDiff, reduceCtorEq]; (repeat refine sk ?_); refine hK _ ?_; clear hK K)
    ((repeat refine PWp.seq ?_); refine PWp.ret ?_)
    refine ⟨.inr rfl, by omega, _, [], ?_, rfl, rfl⟩
    (simp [push_cast, -List.getD_eq_getElem?_getD])
/-- Do two stretches touch? -/
def touch1 (x y : Sb) : Bool := decide (x.at_ ≤ endS y) && decide (y.at_ ≤ endS x)
def touchL (p q : List Sb) : Bool := p.any fun x => q.any fun y => touch1 x y
theorem ref38_touch (x y : Sb) (hx : smS x) (hy : smS y) : QCall Try.prog 48 [.iv (encS x), .iv (encS y)] (iB (touch1 x y)) := by
  have hp : PC Try.prog 48 [.iv (encS x), .iv (encS y)] [] 0 0 (fun t obs => t = iB (touch1 x y) ∧ obs = []) := by
    unfold smS at hx hy
    refine PC.body [4] Try.func48 rfl (by rfl) (Nat.le_of_ble_eq_true (by rfl)) rfl ?_; simp only [enumA]
    ((repeat refine PWp.seq ?_); refine PWp.region TT (by rfl) (fun K hK => ?_); simp only [push_cast, seval, Nat.reduceEqDiff, Nat.reduceLeDiff, reduceCtorEq]; (repeat refine sk ?_); refine hK _ ?_; clear hK K)
    ((repeat refine PWp.seq ?_); refine PWp.region TT (by rfl) (fun K hK => ?_); simp only [push_cast, seval, Nat.reduceEqDiff, Nat.reduceLeDiff, reduceCtorEq, wrap64_id (n := x.at_ + (x.out.length : Int)) (by omega) (by omega), wrap64_id (n := y.at_ + (y.out.length : Int)) (by omega) (by omega)]; (repeat refine sk ?_); refine hK _ ?_; clear hK K)
    ((repeat refine PWp.seq ?_); refine PWp.ret ?_)
    refine ⟨.inr rfl, by omega, _, [], ?_, rfl, rfl⟩
    have e : touch1 x y = !(decide (x.at_ + (x.out.length : Int) < y.at_) || decide (y.at_ + (y.out.length : Int) < x.at_)) := by
      unfold touch1 endS
      rw [Bool.eq_iff_iff]
      simp
      omega
    rw [e]
    (simp [push_cast, -List.getD_eq_getElem?_getD])
  exact hp.quiet (fun _ _ h => h.1) rfl (by simp [push_cast])
theorem shift_end_q (s : Sb) (h : smS s) : QCall Try.prog 37 [.iv (encS s)] (iI (endS s)) := (shift_end s h).quiet (fun _ _ h => h.1) rfl (by simp [push_cast])
theorem touchL_take {p q : List Sb} {k : Nat} (h : ∀ i < k, ∀ j < q.length, touch1 (p.getD i default) (q.getD j default) = false) : True := trivial
theorem touchL_true {p q : List Sb} {i j : Nat} (hi : i < p.length) (hj : j < q.length) (h : touch1 (p.getD i default) (q.getD j default) = true) : touchL p q = true := by
  unfold touchL
  rw [List.any_eq_true]
  refine ⟨_, getD_mem hi, ?_⟩
  rw [List.any_eq_true]
  exact ⟨_, getD_mem hj, h⟩
theorem touchL_false {p q : List Sb} (h : ∀ i < p.length, ∀ j < q.length, touch1 (p.getD i default) (q.getD j default) = false) : touchL p q = false := by
  rw [← Bool.not_eq_true]
  intro ht
  unfold touchL at ht
  rw [List.any_eq_true] at ht
  obtain ⟨x, hx, ht⟩ := ht
  rw [List.any_eq_true] at ht
  obtain ⟨y, hy, ht⟩ := ht
  obtain ⟨i, hi⟩ := List.getElem?_of_mem hx
  obtain ⟨j, hj⟩ := List.getElem?_of_mem hy
  have hi1 := (List.getElem?_eq_some_iff.1 hi).1
  have hj1 := (List.getElem?_eq_some_iff.1 hj).1
  have := h i hi1 j hj1
  rw [List.getD_eq_getElem?_getD, List.getD_eq_getElem?_getD, hi, hj] at this
  simp only [Option.getD_some] at this
  rw [ht] at this
  cases this
theorem shift_touch (p q : List Sb) (hp : smP p) (hq : smP q) : PC Try.prog 28 [iP p, iP q] [] 0 0 (fun t obs => t = iB (touchL p q) ∧ obs = []) := by
  have hpl := hp.1
  have hql := hq.1
  refine PC.body [4] Try.func28 rfl (by rfl) (Nat.le_of_ble_eq_true (by rfl)) rfl ?_; simp only [enumA]
  ((repeat refine PWp.seq ?_); refine PWp.region TT (by rfl) (fun K hK => ?_); simp only [push_cast, seval, Nat.reduceEqDiff, Nat.reduceLeDiff, reduceCtorEq]; (repeat refine sk ?_); refine hK _ ?_; clear hK K)
  ((repeat refine PWp.seq ?_); refine PWp.region TT (by rfl) (fun K hK => ?_); simp only [push_cast, seval, Nat.reduceEqDiff, Nat.reduceLeDiff, reduceCtorEq]; (repeat refine sk ?_); refine hK _ ?_; clear hK K)
  ((repeat refine PWp.seq ?_); refine PWp.block ?_)
  refine PWp.loop (fun c st => ∃ k : Nat, c = p.length - k ∧ k ≤ p.length ∧ (∀ i < k, ∀ j < q.length, touch1 (p.getD i default) (q.getD j default) = false) ∧
    st = ⟨[(1, iP q), (9, iP p), (10, iI p.length), (11, iI k)], [], 0⟩) _ _ ⟨0, rfl, Nat.zero_le _, by simp, rfl⟩ (Gh.le (by simp [push_cast, -List.getD_eq_getElem?_getD]) (by simp)) ?_
  rintro c st ⟨k, rfl, hk, hf, rfl⟩
  ((repeat refine PWp.seq ?_); refine PWp.region TT (by rfl) (fun K hK => ?_); simp only [push_cast, seval, Nat.reduceEqDiff, Nat.reduceLeDiff, reduceCtorEq]; (repeat refine sk ?_); refine hK _ ?_; clear hK K)
  ((repeat refine PWp.seq ?_); refine PWp.cond (by simp only [push_cast, seval, Nat.reduceEqDiff, Nat.reduceLeDiff, reduceCtorEq]; rfl) (fun hc => ?_) (fun hc => ?_))
  · have hlt : k < p.length := by simpa using hc
    clear hc
    have hsk := hp.2 _ (getD_mem hlt)
    ((repeat refine PWp.seq ?_); refine PWp.skip ?_)
    ((repeat refine PWp.seq ?_); refine PWp.block ?_)
    ((repeat refine PWp.seq ?_); refine PWp.region TT (by rfl) (fun K hK => ?_); simp only [push_cast, seval, Nat.reduceEqDiff, Nat.reduceLeDiff, reduceCtorEq, getD_map hlt]; (repeat refine sk ?_); refine hK _ ?_; clear hK K)
    ((repeat refine PWp.seq ?_); refine PWp.region TT (by rfl) (fun K hK => ?_); simp only [push_cast, seval, Nat.reduceEqDiff, Nat.reduceLeDiff, reduceCtorEq]; (repeat refine sk ?_); refine hK _ ?_; clear hK K)
    ((repeat refine PWp.seq ?_); refine PWp.block ?_)
    refine PWp.loop (fun c st => ∃ j : Nat, c = q.length - j ∧ j ≤ q.length ∧ (∀ i < j, touch1 (p.getD k default) (q.getD i default) = false) ∧
      st = ⟨[(1, iP q), (6, .bptr 0 0), (9, iP p), (10, iI p.length), (11, iI k), (15, iP q), (16, iI q.length), (17, iI j)], [(0, .box 47 [iI (p.getD k default).at_, iL (p.getD k default).out, iL (p.getD k default).in_])], 1⟩) _ _ ⟨0, rfl, Nat.zero_le _, by simp, rfl⟩ (Gh.le (by simp [push_cast, -List.getD_eq_getElem?_getD]) (by simp)) ?_
    rintro c st ⟨j, rfl, hj, hfj, rfl⟩
    ((repeat refine PWp.seq ?_); refine PWp.region TT (by rfl) (fun K hK => ?_); simp only [push_cast, seval, Nat.reduceEqDiff, Nat.reduceLeDiff, reduceCtorEq]; (repeat refine sk ?_); refine hK _ ?_; clear hK K)
    ((repeat refine PWp.seq ?_); refine PWp.cond (by simp only [push_cast, seval, Nat.reduceEqDiff, Nat.reduceLeDiff, reduceCtorEq]; rfl) (fun hc => ?_) (fun hc => ?_))
    · have hjt : j < q.length := by simpa using hc
      clear hc
      have hsj := hq.2 _ (getD_mem hjt)
      ((repeat refine PWp.seq ?_); refine PWp.skip ?_)
      ((repeat refine PWp.seq ?_); refine PWp.block ?_)
      ((repeat refine PWp.seq ?_); refine PWp.region TT (by rfl) (fun K hK => ?_); simp only [push_cast, seval, Nat.reduceEqDiff, Nat.reduceLeDiff, reduceCtorEq, getD_map hjt]; (repeat refine sk ?_); refine hK _ ?_; clear hK K)
      ((repeat refine PWp.seq ?_); refine PWp.draw TT (by kernel_rfl) (by kernel_rfl) (by rfl) (by rfl) (fun K hK => ?_); simp only [push_cast, seval, Nat.reduceEqDiff, Nat.reduceLeDiff, reduceCtorEq])
      ((repeat refine sk ?_); refine ⟨_, _, shift_end_q (q.getD j default) hsj, by simp [push_cast], by simp [push_cast], ?_⟩)
      (simp only [push_cast, seval, Nat.reduceEqDiff, Nat.reduceLeDiff, reduceCtorEq])
      cases hcc : decide ((p.getD k default).at_ ≤ endS (q.getD j default)) with
      | false =>
        have ht : touch1 (p.getD k default) (q.getD j default) = false := by unfold touch1; rw [hcc]; rfl
        (simp only [push_cast, seval, Nat.reduceEqDiff, Nat.reduceLeDiff, reduceCtorEq])
        ((repeat refine sk ?_); refine hK _ ?_; clear hK K)
        ((repeat refine PWp.seq ?_); refine PWp.cond (by simp only [push_cast, seval, Nat.reduceEqDiff, Nat.reduceLeDiff, reduceCtorEq]; rfl) (fun hc => ?_) (fun hc => ?_))
        · cases hc
        · ((repeat refine PWp.seq ?_); refine PWp.skip ?_)
          ((repeat refine PWp.seq ?_); refine PWp.region TT (by rfl) (fun K hK => ?_); simp only [push_cast, seval, Nat.reduceEqDiff, Nat.reduceLeDiff, reduceCtorEq, wrap64_id (n := (j : Int) + 1) (by omega) (by omega)]; (repeat refine sk ?_); refine hK _ ?_; clear hK K)
          refine ⟨_, _, ?_, ⟨j + 1, rfl, by omega, fun i hi => ?_, rfl⟩, Gh.le (by simp [push_cast, -List.getD_eq_getElem?_getD]) (by simp)⟩
          · omega
          · by_cases e : i = j
            · subst e; exact ht
            · exact hfj i (by omega)
      | true =>
        (simp only [push_cast, seval, Nat.reduceEqDiff, Nat.reduceLeDiff, reduceCtorEq])
        ((repeat refine sk ?_); refine ⟨_, _, shift_end_q (p.getD k default) hsk, by simp [push_cast], by simp [push_cast], ?_⟩)
        (simp only [push_cast, seval, Nat.reduceEqDiff, Nat.reduceLeDiff, reduceCtorEq]; (repeat refine sk ?_); refine hK _ ?_; clear hK K)
        have ht : touch1 (p.getD k default) (q.getD j default) = decide ((q.getD j default).at_ ≤ endS (p.getD k default)) := by unfold touch1; rw [hcc]; rfl
        ((repeat refine PWp.seq ?_); refine PWp.cond (by simp only [push_cast, seval, Nat.reduceEqDiff, Nat.reduceLeDiff, reduceCtorEq]; rfl) (fun hc => ?_) (fun hc => ?_))
        · rw [← ht] at hc
          ((repeat refine PWp.seq ?_); refine PWp.region TT (by rfl) (fun K hK => ?_); simp only [push_cast, seval, Nat.reduceEqDiff, Nat.reduceLeDiff, reduceCtorEq]; (repeat refine sk ?_); refine hK _ ?_; clear hK K)
          ((repeat refine PWp.seq ?_); refine PWp.ret ?_)
          refine ⟨.inr rfl, by omega, _, [], ?_, rfl, rfl⟩
          rw [touchL_true hlt hjt hc]
          (simp [push_cast, -List.getD_eq_getElem?_getD])
        · rw [← ht] at hc
          ((repeat refine PWp.seq ?_); refine PWp.skip ?_)
          ((repeat refine PWp.seq ?_); refine PWp.region TT (by rfl) (fun K hK => ?_); simp only [push_cast, seval, Nat.reduceEqDiff, Nat.reduceLeDiff, reduceCtorEq, wrap64_id (n := (j : Int) + 1) (by omega) (by omega)]; (repeat refine sk ?_); refine hK _ ?_; clear hK K)
          refine ⟨_, _, ?_, ⟨j + 1, rfl, by omega, fun i hi => ?_, rfl⟩, Gh.le (by simp [push_cast, -List.getD_eq_getElem?_getD]) (by simp)⟩
          · omega
          · by_cases e : i = j
            · subst e; exact hc
            · exact hfj i (by omega)
    · have hj' : j = q.length := by simp at hc; omega
      subst hj'
      (repeat refine PWp.seq ?_); refine PWp.exit (iteT rfl ?_)
      ((repeat refine PWp.seq ?_); refine PWp.region TT (by rfl) (fun K hK => ?_); simp only [push_cast, seval, Nat.reduceEqDiff, Nat.reduceLeDiff, reduceCtorEq, wrap64_id (n := (k : Int) + 1) (by omega) (by omega)]; (repeat refine sk ?_); refine hK _ ?_; clear hK K)
      refine ⟨_, _, ?_, ⟨k + 1, rfl, by omega, fun i hi => ?_, rfl⟩, Gh.le (by simp [push_cast, -List.getD_eq_getElem?_getD]) (by simp)⟩
      · omega
      · by_cases e : i = k
        · subst e; exact hfj
        · exact hf i (by omega)
  · have hk' : k = p.length := by simp at hc; omega
    subst hk'
    (repeat refine PWp.seq ?_); refine PWp.exit (iteT rfl ?_)
    ((repeat refine PWp.seq ?_); refine PWp.region TT (by rfl) (fun K hK => ?_); simp only [push_cast, seval, Nat.reduceEqDiff, Nat.reduceLeDiff, reduceCtorEq]; (repeat refine sk ?_); refine hK _ ?_; clear hK K)
    ((repeat refine PWp.seq ?_); refine PWp.ret ?_)
    refine ⟨.inr rfl, by omega, _, [], ?_, rfl, rfl⟩
    rw [touchL_false hf]
    (simp [push_cast, -List.getD_eq_getElem?_getD])
end Go.Proofs.Ytjjgnopebokfoaa
