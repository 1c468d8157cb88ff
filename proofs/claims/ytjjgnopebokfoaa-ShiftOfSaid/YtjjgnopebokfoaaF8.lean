/- Walks of chapter 38: Back, and what the document has. -/
import Derived.Test.YtjjgnopebokfoaaF7
namespace Go.Proofs.Ytjjgnopebokfoaa
open Go.PL
set_option maxRecDepth 100000
set_option linter.unusedSimpArgs false
set_option linter.unusedVariables false
/-- A patch of few small substitutions. -/
def smC (c : Int) (l : List Sb) : Prop := l.length ≤ 20 ∧ ∀ s ∈ l, -c ≤ s.at_ ∧ s.at_ ≤ c ∧ s.out.length ≤ 40 ∧ s.in_.length ≤ 40
theorem smC.smP {c : Int} {l : List Sb} (h : smC c l) (hc : c ≤ 100000) : smP l := ⟨by have := h.1; omega, fun s hs => by have := h.2 s hs; unfold smS; omega⟩
theorem smC.mono {c d : Int} {l : List Sb} (h : smC c l) (hc : c ≤ d) : smC d l := ⟨h.1, fun s hs => by have := h.2 s hs; omega⟩
theorem smC.growL : ∀ {c : Int} {l : List Sb}, (∀ s ∈ l, -c ≤ s.at_ ∧ s.at_ ≤ c ∧ s.out.length ≤ 40 ∧ s.in_.length ≤ 40) → -(40 * (l.length : Int)) ≤ growL l ∧ growL l ≤ 40 * (l.length : Int)
  | c, [], _ => by simp [Go.Proofs.Ytjjgnopebokfoaa.growL]
  | c, s :: l, h => by
    have h1 := h s (List.mem_cons_self ..)
    have h2 := smC.growL (c := c) (l := l) (fun x hx => h x (List.mem_cons_of_mem _ hx))
    simp only [Go.Proofs.Ytjjgnopebokfoaa.growL, grow1, List.length_cons]
    push_cast
    omega
theorem smC.aheadL (a : Int) : ∀ {c : Int} {l : List Sb}, (∀ s ∈ l, -c ≤ s.at_ ∧ s.at_ ≤ c ∧ s.out.length ≤ 40 ∧ s.in_.length ≤ 40) → -(40 * (l.length : Int)) ≤ aheadL a l ∧ aheadL a l ≤ 40 * (l.length : Int)
  | c, [], _ => by simp [Go.Proofs.Ytjjgnopebokfoaa.aheadL]
  | c, s :: l, h => by
    have h1 := h s (List.mem_cons_self ..)
    have h2 := smC.aheadL a (c := c) (l := l) (fun x hx => h x (List.mem_cons_of_mem _ hx))
    simp only [Go.Proofs.Ytjjgnopebokfoaa.aheadL, grow1, List.length_cons]
    push_cast
    split <;> omega
theorem smC.inv {c : Int} {l : List Sb} (h : smC c l) : smC (c + 800) (invL l) := by
  refine ⟨by unfold invL; rw [invN_length]; exact h.1, fun s hs => ?_⟩
  unfold invL invN at hs
  rw [List.mem_map] at hs
  obtain ⟨i, hi, rfl⟩ := hs
  have hi := List.mem_range.1 hi
  have h1 := h.2 _ (getD_mem hi)
  have h2 := smC.growL (c := c) (l := l.take i) (fun s hs => h.2 s (List.mem_of_mem_take hs))
  have h3 := h.1
  rw [List.length_take] at h2
  simp only
  omega
theorem smC.beh {c d : Int} {p q : List Sb} (hp : smC d p) (hq : smC c q) : smC (c + 800) (behL p q) := by
  refine ⟨by unfold behL; rw [behN_length]; exact hq.1, fun s hs => ?_⟩
  unfold behL behN movN at hs
  rw [List.mem_map] at hs
  obtain ⟨i, hi, rfl⟩ := hs
  have hi := List.mem_range.1 hi
  have h1 := hq.2 _ (getD_mem hi)
  have h2 := smC.aheadL (q.getD i default).at_ (c := d) (l := p) hp.2
  have h3 := hp.1
  simp only
  omega
theorem shift_Back (p q : List Sb) {c d : Int} (hp : smC c p) (hq : smC d q) (hc : c ≤ 90000) (hd : d ≤ 90000) : PC Try.prog 12 [iP p, iP q] [] 0 2 (fun t obs => t = .tup [iP (bakF p q), iP (bakS p q), iI (bakE p q)] ∧ obs = []) := by
  have hp1 := hp.smP (by omega)
  have hq1 := hq.smP (by omega)
  have hi1 := hp.inv.smP (by omega)
  have hf1 := (hp.inv.beh hq).smP (by omega)
  refine PC.body [4, 5, 6] Try.func12 rfl (by rfl) (Nat.le_of_ble_eq_true (by rfl)) rfl ?_; simp only [enumA]
  ((repeat refine PWp.seq ?_); refine PWp.region TT (by rfl) (fun K hK => ?_); simp only [push_cast, seval, Nat.reduceEqDiff, Nat.reduceLeDiff, reduceCtorEq]; (repeat refine sk ?_); refine hK _ ?_; clear hK K)
  ((repeat refine PWp.seq ?_); refine PWp.region TT (by rfl) (fun K hK => ?_); simp only [push_cast, seval, Nat.reduceEqDiff, Nat.reduceLeDiff, reduceCtorEq])
  ((repeat refine sk ?_); refine PCall.use (shift_both p q hp1 hq1) [] rfl (by simp [push_cast]) (by simp) (by simp [push_cast]) (by simp [push_cast]) (by simp [push_cast]) (by simp [push_cast]) ?_)
  rintro _ _ ⟨rfl, rfl⟩
  (simp only [push_cast, seval, Nat.reduceEqDiff, Nat.reduceLeDiff, reduceCtorEq]; (repeat refine sk ?_); refine hK _ ?_; clear hK K)
  ((repeat refine PWp.seq ?_); refine PWp.region TT (by rfl) (fun K hK => ?_); simp only [push_cast, seval, Nat.reduceEqDiff, Nat.reduceLeDiff, reduceCtorEq]; (repeat refine sk ?_); refine hK _ ?_; clear hK K)
  ((repeat refine PWp.seq ?_); refine PWp.cond (by simp only [push_cast, seval, Nat.reduceEqDiff, Nat.reduceLeDiff, reduceCtorEq]; rfl) (fun hc => ?_) (fun hc => ?_))
  · have e : bothE p q ≠ 0 := by
      simp only [Bool.or_eq_true, Bool.and_eq_true, Bool.not_eq_true', Bool.not_eq_false', Bool.or_eq_false_iff, Bool.and_eq_false_iff, decide_eq_true_eq, decide_eq_false_iff_not, beq_iff_eq, beq_eq_false_iff_ne, bne_iff_ne, bne_eq_false_iff_eq, ne_eq, Classical.not_not, Int.not_lt, Int.not_le, ge_iff_le, gt_iff_lt] at hc
      exact hc
    have hE : bakE p q = bothE p q := by unfold bakE; rw [if_pos e]
    have hR : bakF p q = [] := by unfold bakF; rw [if_pos (by rw [hE]; exact e)]
    have hS : bakS p q = [] := by unfold bakS; rw [if_pos (by rw [hE]; exact e)]
    ((repeat refine PWp.seq ?_); refine PWp.region TT (by rfl) (fun K hK => ?_); simp only [push_cast, seval, Nat.reduceEqDiff, Nat.reduceLeDiff, reduceCtorEq]; (repeat refine sk ?_); refine hK _ ?_; clear hK K)
    ((repeat refine PWp.seq ?_); refine PWp.ret ?_)
    refine ⟨.inr rfl, by omega, _, [], ?_, rfl, rfl⟩
    rw [hE, hR, hS]
    (simp [push_cast, -List.getD_eq_getElem?_getD])
  · have e : ¬ bothE p q ≠ 0 := by
      simp only [Bool.or_eq_true, Bool.and_eq_true, Bool.not_eq_true', Bool.not_eq_false', Bool.or_eq_false_iff, Bool.and_eq_false_iff, decide_eq_true_eq, decide_eq_false_iff_not, beq_iff_eq, beq_eq_false_iff_ne, bne_iff_ne, bne_eq_false_iff_eq, ne_eq, Classical.not_not, Int.not_lt, Int.not_le, ge_iff_le, gt_iff_lt] at hc
      simp [hc]
    clear hc
    ((repeat refine PWp.seq ?_); refine PWp.skip ?_)
    ((repeat refine PWp.seq ?_); refine PWp.region TT (by rfl) (fun K hK => ?_); simp only [push_cast, seval, Nat.reduceEqDiff, Nat.reduceLeDiff, reduceCtorEq])
    ((repeat refine sk ?_); refine PCall.use (shift_Invert p hp1) [] rfl (by simp [push_cast]) (by simp) (by simp [push_cast]) (by simp [push_cast]) (by simp [push_cast]) (by simp [push_cast]) ?_)
    rintro _ _ ⟨rfl, rfl⟩
    (simp only [push_cast, seval, Nat.reduceEqDiff, Nat.reduceLeDiff, reduceCtorEq]; (repeat refine sk ?_); refine hK _ ?_; clear hK K)
    ((repeat refine PWp.seq ?_); refine PWp.region TT (by rfl) (fun K hK => ?_); simp only [push_cast, seval, Nat.reduceEqDiff, Nat.reduceLeDiff, reduceCtorEq])
    ((repeat refine sk ?_); refine PCall.use (shift_touch (invL p) q hi1 hq1) [] rfl (by simp [push_cast]) (by simp) (by simp [push_cast]) (by simp [push_cast]) (by simp [push_cast]) (by simp [push_cast]) ?_)
    rintro _ _ ⟨rfl, rfl⟩
    (simp only [push_cast, seval, Nat.reduceEqDiff, Nat.reduceLeDiff, reduceCtorEq]; (repeat refine sk ?_); refine hK _ ?_; clear hK K)
    ((repeat refine PWp.seq ?_); refine PWp.cond (by simp only [push_cast, seval, Nat.reduceEqDiff, Nat.reduceLeDiff, reduceCtorEq]; rfl) (fun hc => ?_) (fun hc => ?_))
    · have hE : bakE p q = 10 := by unfold bakE; rw [if_neg e, if_pos hc]
      have hR : bakF p q = [] := by unfold bakF; rw [if_pos (by rw [hE]; decide)]
      have hS : bakS p q = [] := by unfold bakS; rw [if_pos (by rw [hE]; decide)]
      ((repeat refine PWp.seq ?_); refine PWp.region TT (by rfl) (fun K hK => ?_); simp only [push_cast, seval, Nat.reduceEqDiff, Nat.reduceLeDiff, reduceCtorEq]; (repeat refine sk ?_); refine hK _ ?_; clear hK K)
      ((repeat refine PWp.seq ?_); refine PWp.ret ?_)
      refine ⟨.inr rfl, by omega, _, [], ?_, rfl, rfl⟩
      rw [hE, hR, hS]
      (simp [push_cast, -List.getD_eq_getElem?_getD])
    · have hE : bakE p q = 0 := by unfold bakE; rw [if_neg e, if_neg (by rw [hc]; decide)]
      have hR : bakF p q = behL (invL p) q := by unfold bakF; rw [if_neg (by rw [hE]; decide)]
      have hS : bakS p q = behL (behL (invL p) q) p := by unfold bakS; rw [if_neg (by rw [hE]; decide)]
      ((repeat refine PWp.seq ?_); refine PWp.skip ?_)
      refine PWp.gh (Gh.freezeB 2 [.sl 3 ((invL p).map encS)] (ty := 22) (by rfl)) ?_
      ((repeat refine PWp.seq ?_); refine PWp.region TT (by rfl) (fun K hK => ?_); simp only [push_cast, seval, Nat.reduceEqDiff, Nat.reduceLeDiff, reduceCtorEq])
      ((repeat refine sk ?_); refine PCall.use (shift_movedP q 34 (.sl 3 ((invL p).map encS)) (fun k => aheadL (q.getD k default).at_ (invL p)) hq1 (fun k _ => by have := aheadP_b hi1 (q.getD k default).at_; omega) (fun k hk => shift_Back1 (q.getD k default) (invL p) (hq1.2 _ (getD_mem hk)) hi1)) [] rfl (by simp [push_cast]) (by simp) (by simp [push_cast]) (by simp [push_cast]) (by simp [push_cast]) (by simp [push_cast]) ?_)
      rintro _ _ ⟨rfl, rfl⟩
      rw [show movN (fun k => aheadL (q.getD k default).at_ (invL p)) q q.length = behL (invL p) q from rfl]
      (simp only [push_cast, seval, Nat.reduceEqDiff, Nat.reduceLeDiff, reduceCtorEq]; (repeat refine sk ?_); refine hK _ ?_; clear hK K)
      generalize behL (invL p) q = r at *
      refine PWp.gh (Gh.freezeB 4 [.sl 3 (r.map encS)] (ty := 22) (by rfl)) ?_
      ((repeat refine PWp.seq ?_); refine PWp.drawT TT (by kernel_rfl) [] (.q 0 (.q 1 (.q 2 (.x 3 (.q 4 (.q 5 (.q 6 .nil))))))) (by rfl) (by kernel_rfl) (by rfl) (by simp) (fun K hK => ?_); simp only [push_cast, seval, Nat.reduceEqDiff, Nat.reduceLeDiff, reduceCtorEq])
      ((repeat refine sk ?_); refine PCall.use (shift_movedP p 35 (.sl 3 (r.map encS)) (fun k => aheadL (p.getD k default).at_ r) hp1 (fun k _ => by have := aheadP_b hf1 (p.getD k default).at_; omega) (fun k hk => shift_BackB1 (p.getD k default) r (hp1.2 _ (getD_mem hk)) hf1)) [] rfl (by simp [push_cast]) (by simp) (by simp [push_cast]) (by simp [push_cast]) (by simp [push_cast]) (by simp [push_cast]) ?_)
      rintro _ _ ⟨rfl, rfl⟩
      rw [show movN (fun k => aheadL (p.getD k default).at_ r) p p.length = behL r p from rfl]
      (simp only [push_cast, seval, Nat.reduceEqDiff, Nat.reduceLeDiff, reduceCtorEq]; (repeat refine sk ?_); refine hK _ ?_; clear hK K)
      ((repeat refine PWp.seq ?_); refine PWp.ret ?_)
      refine ⟨.inr rfl, by omega, _, [], ?_, rfl, rfl⟩
      rw [hE, hR, hS]
      (simp [push_cast, -List.getD_eq_getElem?_getD])
theorem invN_iP : True := trivial
theorem ref38_Invert (l : List Sb) (hl : smP l) : PC Try.prog 21 [iP l] [] 0 1 (fun t obs => t = iP (invL l) ∧ obs = []) := by
  have hlen := hl.1
  refine PC.body [2] Try.func21 rfl (by rfl) (Nat.le_of_ble_eq_true (by rfl)) rfl ?_; simp only [enumA]
  ((repeat refine PWp.seq ?_); refine PWp.region TT (by rfl) (fun K hK => ?_); simp only [push_cast, seval, Nat.reduceEqDiff, Nat.reduceLeDiff, reduceCtorEq]; (repeat refine sk ?_); refine hK _ ?_; clear hK K)
  ((repeat refine PWp.seq ?_); refine PWp.region TT (by rfl) (fun K hK => ?_); simp only [push_cast, seval, Nat.reduceEqDiff, Nat.reduceLeDiff, reduceCtorEq]; (repeat refine sk ?_); refine hK _ ?_; clear hK K)
  ((repeat refine PWp.seq ?_); refine PWp.region TT (by rfl) (fun K hK => ?_); simp only [push_cast, seval, Nat.reduceEqDiff, Nat.reduceLeDiff, reduceCtorEq]; (repeat refine sk ?_); refine hK _ ?_; clear hK K)
  ((repeat refine PWp.seq ?_); refine PWp.block ?_)
  refine PWp.loop (fun c st => ∃ k : Nat, c = l.length - k ∧ k ≤ l.length ∧
    st = ⟨[(0, iP l), (3, .acc 0 3 ((invN l k).map encS)), (4, iI k)], [(0, .row 47 3)], 1⟩) _ _ ⟨0, rfl, Nat.zero_le _, rfl⟩ (Gh.le (by simp [push_cast, -List.getD_eq_getElem?_getD, invN]) (by simp)) ?_
  rintro c st ⟨k, rfl, hk, rfl⟩
  ((repeat refine PWp.seq ?_); refine PWp.region TT (by rfl) (fun K hK => ?_); simp only [push_cast, seval, Nat.reduceEqDiff, Nat.reduceLeDiff, reduceCtorEq]; (repeat refine sk ?_); refine hK _ ?_; clear hK K)
  ((repeat refine PWp.seq ?_); refine PWp.cond (by simp only [push_cast, seval, Nat.reduceEqDiff, Nat.reduceLeDiff, reduceCtorEq]; rfl) (fun hc => ?_) (fun hc => ?_))
  · have hlt : k < l.length := by simpa using hc
    clear hc
    have hsk := hl.2 _ (getD_mem hlt)
    unfold smS at hsk
    have g := growT_b hl k
    have hml := invN_length l k
    ((repeat refine PWp.seq ?_); refine PWp.skip ?_)
    ((repeat refine PWp.seq ?_); refine PWp.block ?_)
    ((repeat refine PWp.seq ?_); refine PWp.drawT TT (by kernel_rfl) [] (.q 0 (.q 1 (.q 2 (.q 3 (.q 4 (.q 5 (.q 6 (.q 7 (.q 8 (.q 11 (.q 12 (.q 13 (.q 14 (.q 15 (.q 16 (.q 17 (.q 18 (.q 19 (.q 20 (.x 9 (.q 10 (.q 21 (.x 22 (.x 23 (.q 24 .nil))))))))))))))))))))))))) (by rfl) (by kernel_rfl) (by rfl) (by simp) (fun K hK => ?_); simp only [push_cast, seval, Nat.reduceEqDiff, Nat.reduceLeDiff, reduceCtorEq, getD_map hlt])
    ((repeat refine sk ?_); refine PCall.use (ref38_Grows (l.take k) (smP_take hl k)) [] rfl (by simp [push_cast]) (by simp) (by simp [push_cast]) (by simp [push_cast]) (by simp [push_cast]) (by simp [push_cast]) ?_)
    rintro _ _ ⟨rfl, rfl⟩
    (simp only [push_cast, seval, Nat.reduceEqDiff, Nat.reduceLeDiff, reduceCtorEq, getD_map hlt, wrap64_id (n := (l.getD k default).at_ + growL (l.take k)) (by omega) (by omega)]; (repeat refine sk ?_); refine hK _ ?_; clear hK K)
    ((repeat refine PWp.seq ?_); refine PWp.region TT (by rfl) (fun K hK => ?_); simp only [push_cast, seval, Nat.reduceEqDiff, Nat.reduceLeDiff, reduceCtorEq, wrap64_id (n := (k : Int) + 1) (by omega) (by omega)]; (repeat refine sk ?_); refine hK _ ?_; clear hK K)
    refine ⟨_, _, ?_, ⟨k + 1, rfl, by omega, rfl⟩, Gh.le (by simp [push_cast, -List.getD_eq_getElem?_getD, invN_succ]) (by simp)⟩
    omega
  · have hk' : k = l.length := by simp at hc; omega
    subst hk'
    (repeat refine PWp.seq ?_); refine PWp.exit (iteT rfl ?_)
    ((repeat refine PWp.seq ?_); refine PWp.region TT (by rfl) (fun K hK => ?_); simp only [push_cast, seval, Nat.reduceEqDiff, Nat.reduceLeDiff, reduceCtorEq]; (repeat refine sk ?_); refine hK _ ?_; clear hK K)
    ((repeat refine PWp.seq ?_); refine PWp.ret ?_)
    refine ⟨.inr rfl, by omega, _, [], ?_, rfl, rfl⟩
    unfold invL
    (simp [push_cast, -List.getD_eq_getElem?_getD])
end Go.Proofs.Ytjjgnopebokfoaa
