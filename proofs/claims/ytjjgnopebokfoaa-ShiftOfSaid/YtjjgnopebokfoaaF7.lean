/- Walks of chapter 38: Invert, Behind, Back. -/
import Derived.Test.YtjjgnopebokfoaaF6
namespace Go.Proofs.Ytjjgnopebokfoaa
open Go.PL
set_option maxRecDepth 100000
set_option linter.unusedSimpArgs false
set_option linter.unusedVariables false
/-- The patch that goes back: its first substitutions, the others only moved. -/
def invN (l : List Sb) (k : Nat) : List Sb := (List.range k).map fun (i : Nat) => ⟨(l.getD i default).at_ + growL (l.take i), (l.getD i default).in_, (l.getD i default).out⟩
def invL (l : List Sb) : List Sb := invN l l.length
def mvI (l : List Sb) (k : Nat) : List Sb := movN (fun i => growL (l.take i)) l k
def mixN (l : List Sb) (k : Nat) : List Sb := invN l k ++ (mvI l l.length).drop k
theorem invN_length (l : List Sb) (k : Nat) : (invN l k).length = k := by simp [invN]
theorem invN_succ (l : List Sb) (k : Nat) : invN l (k + 1) = invN l k ++ [⟨(l.getD k default).at_ + growL (l.take k), (l.getD k default).in_, (l.getD k default).out⟩] := by simp [invN, List.range_succ]
theorem mvI_length (l : List Sb) (k : Nat) : (mvI l k).length = k := movN_length _ _ _
theorem mixN_length {l : List Sb} {k : Nat} (h : k ≤ l.length) : (mixN l k).length = l.length := by
  unfold mixN
  rw [List.length_append, invN_length, List.length_drop, mvI_length]
  omega
theorem mvI_drop {l : List Sb} {k : Nat} (h : k < l.length) : (mvI l l.length).drop k = ⟨(l.getD k default).at_ + growL (l.take k), (l.getD k default).out, (l.getD k default).in_⟩ :: (mvI l l.length).drop (k + 1) := by
  rw [List.drop_eq_getElem_cons (by rw [mvI_length]; exact h)]
  congr 1
  simp [mvI, movN]
theorem mixN_get {l : List Sb} {k : Nat} (h : k < l.length) : (mixN l k).getD k default = ⟨(l.getD k default).at_ + growL (l.take k), (l.getD k default).out, (l.getD k default).in_⟩ := by
  unfold mixN
  rw [mvI_drop h]
  simp [List.getD, List.getElem?_append_right, invN_length]
theorem mixN_set {l : List Sb} {k : Nat} (h : k < l.length) : (mixN l k).set k ⟨(l.getD k default).at_ + growL (l.take k), (l.getD k default).in_, (l.getD k default).out⟩ = mixN l (k + 1) := by
  unfold mixN
  rw [mvI_drop h, invN_succ, List.set_append_right _ _ (by rw [invN_length]; exact Nat.le_refl _), invN_length, Nat.sub_self]
  simp
theorem mixN_all (l : List Sb) : mixN l l.length = invL l := by
  unfold mixN invL
  rw [List.drop_eq_nil_of_le (by rw [mvI_length]; exact Nat.le_refl _), List.append_nil]
theorem mixN_zero (l : List Sb) : mixN l 0 = mvI l l.length := by simp [mixN, invN]
theorem getD_set_self {α : Type} (l : List α) (k : Nat) (x d : α) (h : k < l.length) : (l.set k x).getD k d = x := by simp [List.getD, h]
theorem shift_Invert (l : List Sb) (hl : smP l) : PC Try.prog 20 [iP l] [] 0 2 (fun t obs => t = iP (invL l) ∧ obs = []) := by
  have hlen := hl.1
  have hcl : PC Try.prog 29 [iP l, .clo 40 [.bptr 0 0]] [(0, .box 3 [iI 0])] 1 2 (fun t obs => t = .mrow 1 ∧ obs = [(0, .box 3 [iI (growL l)]), (1, .mrow 47 3 ((mvI l l.length).map encS))]) := by
    have h := shift_moved l 40 3 (fun k => .lit (.int .i64 (growL (l.take k)))) (fun k => growL (l.take k)) hl (fun k _ => by have := growT_b hl k; omega) (fun k hk => by
      have g := growT_b hl k
      have e : growL (l.take (k + 1)) = growL (l.take k) + grow1 (l.getD k default) := by
        rw [take_succ_getD hk, growL_append]; simp [growL]
      rw [e]
      exact shift_Invert1 (l.getD k default) (growL (l.take k)) (hl.2 _ (getD_mem hk)) (by omega))
    simpa [iI, growL, mvI] using h
  refine PC.body [2] Try.func20 rfl (by rfl) (Nat.le_of_ble_eq_true (by rfl)) rfl ?_; simp only [enumA]
  ((repeat refine PWp.seq ?_); refine PWp.region TT (by rfl) (fun K hK => ?_); simp only [push_cast, seval, Nat.reduceEqDiff, Nat.reduceLeDiff, reduceCtorEq]; (repeat refine sk ?_); refine hK _ ?_; clear hK K)
  ((repeat refine PWp.seq ?_); refine PWp.region TT (by rfl) (fun K hK => ?_); simp only [push_cast, seval, Nat.reduceEqDiff, Nat.reduceLeDiff, reduceCtorEq]; (repeat refine sk ?_); refine hK _ ?_; clear hK K)
  ((repeat refine PWp.seq ?_); refine PWp.region TT (by rfl) (fun K hK => ?_); simp only [push_cast, seval, Nat.reduceEqDiff, Nat.reduceLeDiff, reduceCtorEq])
  ((repeat refine sk ?_); refine PCall.use (hcl) [0] rfl (by simp [push_cast]) (by simp) (by simp [push_cast]) (by simp [push_cast]) (by simp [push_cast]) (by simp [push_cast]) ?_)
  rintro _ _ ⟨rfl, rfl⟩
  (simp only [push_cast, seval, Nat.reduceEqDiff, Nat.reduceLeDiff, reduceCtorEq]; (repeat refine sk ?_); refine hK _ ?_; clear hK K)
  have hmx : (mvI l l.length).length = l.length := mvI_length _ _
  ((repeat refine PWp.seq ?_); refine PWp.region TT (by rfl) (fun K hK => ?_); simp only [push_cast, seval, Nat.reduceEqDiff, Nat.reduceLeDiff, reduceCtorEq]; (repeat refine sk ?_); refine hK _ ?_; clear hK K)
  ((repeat refine PWp.seq ?_); refine PWp.block ?_)
  refine PWp.loop (fun c st => ∃ k : Nat, c = l.length - k ∧ k ≤ l.length ∧
    st = ⟨[(4, .mrow 1), (10, .mrow 1), (11, iI l.length), (12, iI k)], [(1, .mrow 47 3 ((mixN l k).map encS))], 2⟩) _ _ ⟨0, rfl, Nat.zero_le _, rfl⟩ (Gh.le (by simp [push_cast, -List.getD_eq_getElem?_getD, hmx, mixN_zero]) (by simp)) ?_
  rintro c st ⟨k, rfl, hk, rfl⟩
  have hml := mixN_length hk
  ((repeat refine PWp.seq ?_); refine PWp.region TT (by rfl) (fun K hK => ?_); simp only [push_cast, seval, Nat.reduceEqDiff, Nat.reduceLeDiff, reduceCtorEq]; (repeat refine sk ?_); refine hK _ ?_; clear hK K)
  ((repeat refine PWp.seq ?_); refine PWp.cond (by simp only [push_cast, seval, Nat.reduceEqDiff, Nat.reduceLeDiff, reduceCtorEq]; rfl) (fun hc => ?_) (fun hc => ?_))
  · have hlt : k < l.length := by simpa using hc
    clear hc
    have hg : ((mixN l k).map encS).getD k .any = encS ⟨(l.getD k default).at_ + growL (l.take k), (l.getD k default).out, (l.getD k default).in_⟩ := by rw [getD_map (by omega), mixN_get hlt]
    have hlm : k < ((mixN l k).map encS).length := by rw [List.length_map, hml]; exact hlt
    have hs2 : ((mixN l k).map encS).set k (.agg [.lit (.int .i64 ((l.getD k default).at_ + growL (l.take k))), .sl 2 ((l.getD k default).in_.map encL), .sl 2 ((l.getD k default).out.map encL)]) = (mixN l (k + 1)).map encS := by
      rw [← mixN_set hlt, List.map_set]; rfl
    ((repeat refine PWp.seq ?_); refine PWp.skip ?_)
    ((repeat refine PWp.seq ?_); refine PWp.block ?_)
    ((repeat refine PWp.seq ?_); refine PWp.region TT (by rfl) (fun K hK => ?_); simp only [push_cast, seval, Nat.reduceEqDiff, Nat.reduceLeDiff, reduceCtorEq, hg]; (repeat refine sk ?_); refine hK _ ?_; clear hK K)
    ((repeat refine PWp.seq ?_); refine PWp.drawT TT (by kernel_rfl) [2] (.q 0 (.q 1 (.q 2 (.q 3 (.q 4 (.q 5 (.q 6 (.q 7 (.x 8 (.q 9 (.x 10 (.x 11 (.q 12 (.x 13 .nil)))))))))))))) (by rfl) (by kernel_rfl) (by rfl) (by simp) (fun K hK => ?_); simp only [push_cast, seval, Nat.reduceEqDiff, Nat.reduceLeDiff, reduceCtorEq, hg, getD_set_self _ _ _ _ hlm, List.length_set, List.set_set, hs2]; (repeat refine sk ?_); refine hK _ ?_; clear hK K)
    ((repeat refine PWp.seq ?_); refine PWp.region TT (by rfl) (fun K hK => ?_); simp only [push_cast, seval, Nat.reduceEqDiff, Nat.reduceLeDiff, reduceCtorEq, wrap64_id (n := (k : Int) + 1) (by omega) (by omega)]; (repeat refine sk ?_); refine hK _ ?_; clear hK K)
    refine ⟨_, _, ?_, ⟨k + 1, rfl, by omega, rfl⟩, Gh.le (by simp [push_cast, -List.getD_eq_getElem?_getD]) (by simp)⟩
    omega
  · have hk' : k = l.length := by simp at hc; omega
    subst hk'
    (repeat refine PWp.seq ?_); refine PWp.exit (iteT rfl ?_)
    refine PWp.gh (Gh.freeze 1 (e := 47) (sz := 3) (xs := (mixN l l.length).map encS) (by rfl)) ?_
    ((repeat refine PWp.seq ?_); refine PWp.region TT (by rfl) (fun K hK => ?_); simp only [push_cast, seval, Nat.reduceEqDiff, Nat.reduceLeDiff, reduceCtorEq]; (repeat refine sk ?_); refine hK _ ?_; clear hK K)
    ((repeat refine PWp.seq ?_); refine PWp.ret ?_)
    refine ⟨.inr rfl, by omega, _, [], ?_, rfl, rfl⟩
    rw [mixN_all]
    (simp [push_cast, -List.getD_eq_getElem?_getD])
def behE (p q : List Sb) : Int := if bothE p q ≠ 0 then bothE p q else if touchL p q then 10 else 0
def behR (p q : List Sb) : List Sb := if behE p q ≠ 0 then [] else behL p q
def bakE (p q : List Sb) : Int := if bothE p q ≠ 0 then bothE p q else if touchL (invL p) q then 10 else 0
def bakF (p q : List Sb) : List Sb := if bakE p q ≠ 0 then [] else behL (invL p) q
def bakS (p q : List Sb) : List Sb := if bakE p q ≠ 0 then [] else behL (behL (invL p) q) p
theorem aheadP_b {l : List Sb} (h : smP l) (a : Int) : -100000000 ≤ aheadL a l ∧ aheadL a l ≤ 100000000 := by
  have := aheadT_b h a l.length
  rwa [List.take_length] at this
theorem shift_Behind (p q : List Sb) (hp : smP p) (hq : smP q) : PC Try.prog 10 [iP p, iP q] [] 0 2 (fun t obs => t = .tup [iP (behR p q), iI (behE p q)] ∧ obs = []) := by
  refine PC.body [4, 5] Try.func10 rfl (by rfl) (Nat.le_of_ble_eq_true (by rfl)) rfl ?_; simp only [enumA]
  ((repeat refine PWp.seq ?_); refine PWp.region TT (by rfl) (fun K hK => ?_); simp only [push_cast, seval, Nat.reduceEqDiff, Nat.reduceLeDiff, reduceCtorEq]; (repeat refine sk ?_); refine hK _ ?_; clear hK K)
  ((repeat refine PWp.seq ?_); refine PWp.region TT (by rfl) (fun K hK => ?_); simp only [push_cast, seval, Nat.reduceEqDiff, Nat.reduceLeDiff, reduceCtorEq])
  ((repeat refine sk ?_); refine PCall.use (shift_both p q hp hq) [] rfl (by simp [push_cast]) (by simp) (by simp [push_cast]) (by simp [push_cast]) (by simp [push_cast]) (by simp [push_cast]) ?_)
  rintro _ _ ⟨rfl, rfl⟩
  (simp only [push_cast, seval, Nat.reduceEqDiff, Nat.reduceLeDiff, reduceCtorEq]; (repeat refine sk ?_); refine hK _ ?_; clear hK K)
  ((repeat refine PWp.seq ?_); refine PWp.region TT (by rfl) (fun K hK => ?_); simp only [push_cast, seval, Nat.reduceEqDiff, Nat.reduceLeDiff, reduceCtorEq]; (repeat refine sk ?_); refine hK _ ?_; clear hK K)
  ((repeat refine PWp.seq ?_); refine PWp.cond (by simp only [push_cast, seval, Nat.reduceEqDiff, Nat.reduceLeDiff, reduceCtorEq]; rfl) (fun hc => ?_) (fun hc => ?_))
  · have e : bothE p q ≠ 0 := by
      simp only [Bool.or_eq_true, Bool.and_eq_true, Bool.not_eq_true', Bool.not_eq_false', Bool.or_eq_false_iff, Bool.and_eq_false_iff, decide_eq_true_eq, decide_eq_false_iff_not, beq_iff_eq, beq_eq_false_iff_ne, bne_iff_ne, bne_eq_false_iff_eq, ne_eq, Classical.not_not, Int.not_lt, Int.not_le, ge_iff_le, gt_iff_lt] at hc
      exact hc
    have hE : behE p q = bothE p q := by unfold behE; rw [if_pos e]
    have hR : behR p q = [] := by unfold behR; rw [if_pos (by rw [hE]; exact e)]
    ((repeat refine PWp.seq ?_); refine PWp.region TT (by rfl) (fun K hK => ?_); simp only [push_cast, seval, Nat.reduceEqDiff, Nat.reduceLeDiff, reduceCtorEq]; (repeat refine sk ?_); refine hK _ ?_; clear hK K)
    ((repeat refine PWp.seq ?_); refine PWp.ret ?_)
    refine ⟨.inr rfl, by omega, _, [], ?_, rfl, rfl⟩
    rw [hE, hR]
    (simp [push_cast, -List.getD_eq_getElem?_getD])
  · have e : ¬ bothE p q ≠ 0 := by
      simp only [Bool.or_eq_true, Bool.and_eq_true, Bool.not_eq_true', Bool.not_eq_false', Bool.or_eq_false_iff, Bool.and_eq_false_iff, decide_eq_true_eq, decide_eq_false_iff_not, beq_iff_eq, beq_eq_false_iff_ne, bne_iff_ne, bne_eq_false_iff_eq, ne_eq, Classical.not_not, Int.not_lt, Int.not_le, ge_iff_le, gt_iff_lt] at hc
      simp [hc]
    clear hc
    ((repeat refine PWp.seq ?_); refine PWp.skip ?_)
    ((repeat refine PWp.seq ?_); refine PWp.region TT (by rfl) (fun K hK => ?_); simp only [push_cast, seval, Nat.reduceEqDiff, Nat.reduceLeDiff, reduceCtorEq])
    ((repeat refine sk ?_); refine PCall.use (shift_touch p q hp hq) [] rfl (by simp [push_cast]) (by simp) (by simp [push_cast]) (by simp [push_cast]) (by simp [push_cast]) (by simp [push_cast]) ?_)
    rintro _ _ ⟨rfl, rfl⟩
    (simp only [push_cast, seval, Nat.reduceEqDiff, Nat.reduceLeDiff, reduceCtorEq]; (repeat refine sk ?_); refine hK _ ?_; clear hK K)
    ((repeat refine PWp.seq ?_); refine PWp.cond (by simp only [push_cast, seval, Nat.reduceEqDiff, Nat.reduceLeDiff, reduceCtorEq]; rfl) (fun hc => ?_) (fun hc => ?_))
    · have hE : behE p q = 10 := by unfold behE; rw [if_neg e, if_pos hc]
      have hR : behR p q = [] := by unfold behR; rw [if_pos (by rw [hE]; decide)]
      ((repeat refine PWp.seq ?_); refine PWp.region TT (by rfl) (fun K hK => ?_); simp only [push_cast, seval, Nat.reduceEqDiff, Nat.reduceLeDiff, reduceCtorEq]; (repeat refine sk ?_); refine hK _ ?_; clear hK K)
      ((repeat refine PWp.seq ?_); refine PWp.ret ?_)
      refine ⟨.inr rfl, by omega, _, [], ?_, rfl, rfl⟩
      rw [hE, hR]
      (simp [push_cast, -List.getD_eq_getElem?_getD])
    · have hE : behE p q = 0 := by unfold behE; rw [if_neg e, if_neg (by rw [hc]; decide)]
      have hR : behR p q = behL p q := by unfold behR; rw [if_neg (by rw [hE]; decide)]
      ((repeat refine PWp.seq ?_); refine PWp.skip ?_)
      refine PWp.gh (Gh.freezeB 0 [.sl 3 (p.map encS)] (ty := 22) (by rfl)) ?_
      ((repeat refine PWp.seq ?_); refine PWp.region TT (by rfl) (fun K hK => ?_); simp only [push_cast, seval, Nat.reduceEqDiff, Nat.reduceLeDiff, reduceCtorEq])
      ((repeat refine sk ?_); refine PCall.use (shift_movedP q 30 (.sl 3 (p.map encS)) (fun k => aheadL (q.getD k default).at_ p) hq (fun k _ => by have := aheadP_b hp (q.getD k default).at_; omega) (fun k hk => shift_Behind1 (q.getD k default) p (hq.2 _ (getD_mem hk)) hp)) [] rfl (by simp [push_cast]) (by simp) (by simp [push_cast]) (by simp [push_cast]) (by simp [push_cast]) (by simp [push_cast]) ?_)
      rintro _ _ ⟨rfl, rfl⟩
      (simp only [push_cast, seval, Nat.reduceEqDiff, Nat.reduceLeDiff, reduceCtorEq]; (repeat refine sk ?_); refine hK _ ?_; clear hK K)
      ((repeat refine PWp.seq ?_); refine PWp.ret ?_)
      refine ⟨.inr rfl, by omega, _, [], ?_, rfl, rfl⟩
      rw [hE, hR]
      unfold behL behN
      (simp [push_cast, -List.getD_eq_getElem?_getD])
end Go.Proofs.Ytjjgnopebokfoaa
