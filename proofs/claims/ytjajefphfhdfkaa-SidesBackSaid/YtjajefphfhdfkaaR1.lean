/- A text in so many bytes: walks of both Fits. -/
import Derived.Test.YtjajefphfhdfkaaNX
namespace Go.Proofs.Ytjajefphfhdfkaa
open Go.PL
set_option maxRecDepth 100000
set_option linter.unusedSimpArgs false
set_option linter.unusedVariables false
def plainB (c : UInt8) : UInt8 := if c.toNat < 32 ∨ 126 < c.toNat then 46 else c
theorem sides_plain (c : UInt8) : PC Try.prog 26 [iU c.toNat] [] 0 0 (fun t obs => t = iU (plainB c).toNat ∧ obs = []) := by
  refine PC.body [2] Try.func26 rfl (by rfl) (Nat.le_of_ble_eq_true (by rfl)) rfl ?_; simp only [enumA]
  ((repeat refine PWp.seq ?_); refine PWp.region TT (by rfl) (fun K hK => ?_); simp only [push_cast, seval, Nat.reduceEqDiff, Nat.reduceLeDiff, reduceCtorEq]; (repeat refine sk ?_); refine hK _ ?_; clear hK K)
  ((repeat refine PWp.seq ?_); refine PWp.region TT (by rfl) (fun K hK => ?_); simp only [push_cast, seval, Nat.reduceEqDiff, Nat.reduceLeDiff, reduceCtorEq]; (repeat refine sk ?_); refine hK _ ?_; clear hK K)
  ((repeat refine PWp.seq ?_); refine PWp.cond (by simp only [push_cast, seval, Nat.reduceEqDiff, Nat.reduceLeDiff, reduceCtorEq]; rfl) (fun hc => ?_) (fun hc => ?_))
  · have e : plainB c = 46 := if_pos (by simp only [Bool.or_eq_true, Bool.and_eq_true, Bool.not_eq_true', Bool.not_eq_false', Bool.or_eq_false_iff, Bool.and_eq_false_iff, decide_eq_true_eq, decide_eq_false_iff_not, beq_iff_eq, beq_eq_false_iff_ne, bne_iff_ne, bne_eq_false_iff_eq, ne_eq, Classical.not_not, Int.not_lt, Int.not_le, ge_iff_le, gt_iff_lt] at hc; omega)
    ((repeat refine PWp.seq ?_); refine PWp.region TT (by rfl) (fun K hK => ?_); simp only [push_cast, seval, Nat.reduceEqDiff, Nat.reduceLeDiff, reduceCtorEq]; (repeat refine sk ?_); refine hK _ ?_; clear hK K)
    ((repeat refine PWp.seq ?_); refine PWp.ret ?_)
    refine ⟨.inr rfl, by omega, _, [], ?_, rfl, rfl⟩
    rw [e]
    (simp [push_cast, -List.getD_eq_getElem?_getD])
  · have e : plainB c = c := if_neg (by simp only [Bool.or_eq_true, Bool.and_eq_true, Bool.not_eq_true', Bool.not_eq_false', Bool.or_eq_false_iff, Bool.and_eq_false_iff, decide_eq_true_eq, decide_eq_false_iff_not, beq_iff_eq, beq_eq_false_iff_ne, bne_iff_ne, bne_eq_false_iff_eq, ne_eq, Classical.not_not, Int.not_lt, Int.not_le, ge_iff_le, gt_iff_lt] at hc; omega)
    ((repeat refine PWp.seq ?_); refine PWp.skip ?_)
    ((repeat refine PWp.seq ?_); refine PWp.region TT (by rfl) (fun K hK => ?_); simp only [push_cast, seval, Nat.reduceEqDiff, Nat.reduceLeDiff, reduceCtorEq]; (repeat refine sk ?_); refine hK _ ?_; clear hK K)
    ((repeat refine PWp.seq ?_); refine PWp.ret ?_)
    refine ⟨.inr rfl, by omega, _, [], ?_, rfl, rfl⟩
    rw [e]
    (simp [push_cast, -List.getD_eq_getElem?_getD])
def fB (s : List UInt8) (w i : Nat) : UInt8 := if i + 1 = w ∧ w < s.length then 62 else if i < s.length then plainB (s.getD i 0) else 32
def fitN (s : List UInt8) (w k : Nat) : List UInt8 := (List.range k).map (fB s w)
def fitB (s : List UInt8) (w : Int) : List UInt8 := if w < 1 then [] else fitN s w.toNat w.toNat
theorem fitN_len (s : List UInt8) (w k : Nat) : (fitN s w k).length = k := by simp [fitN]
theorem fitB_len (s : List UInt8) (w : Int) : ((fitB s w).length : Int) = mx w 0 := by
  unfold fitB mx
  split
  · split <;> simp <;> omega
  · rw [fitN_len]
    split <;> omega
theorem fitN_succ (s : List UInt8) (w k : Nat) : fitN s w (k + 1) = fitN s w k ++ [fB s w k] := by
  unfold fitN
  rw [List.range_succ, List.map_append]
  rfl
def pB (s : List UInt8) (k : Nat) : List UInt8 := (s.take k).map plainB
theorem pB_succ {s : List UInt8} {k : Nat} (h : k < s.length) : pB s (k + 1) = pB s k ++ [plainB (s.getD k 0)] := by
  unfold pB
  rw [List.take_add_one, List.map_append]
  congr 1
  simp [List.getD, h]
theorem pB_len {s : List UInt8} {k : Nat} (h : k ≤ s.length) : (pB s k).length = k := by
  unfold pB
  rw [List.length_map, List.length_take]
  omega
theorem fitN_small {s : List UInt8} {w : Nat} (h : s.length ≤ w) : ∀ k, k ≤ s.length → fitN s w k = pB s k
  | 0, _ => rfl
  | k + 1, hk => by
    rw [fitN_succ, fitN_small h k (by omega), pB_succ (by omega)]
    unfold fB
    rw [if_neg (by omega), if_pos (by omega)]
theorem fitN_big {s : List UInt8} {w : Nat} (h : w < s.length) (hw : 0 < w) : fitN s w w = (pB s w).set (w - 1) 62 := by
  have key : ∀ k, k < w → fitN s w k = pB s k := by
    intro k
    induction k with
    | zero => intro _; rfl
    | succ k ih =>
      intro hk
      rw [fitN_succ, ih (by omega), pB_succ (by omega)]
      unfold fB
      rw [if_neg (by omega), if_pos (by omega)]
  obtain ⟨v, rfl⟩ : ∃ v, w = v + 1 := ⟨w - 1, by omega⟩
  have hl := pB_len (s := s) (k := v) (by omega)
  rw [fitN_succ, key v (by omega), pB_succ (by omega), Nat.add_sub_cancel]
  generalize pB s v = X at *
  subst hl
  unfold fB
  rw [if_pos ⟨rfl, h⟩]
  simp
theorem set_byteV (X : List UInt8) (k : Nat) (c : UInt8) : (X.map byteV).set k (byteV c) = (X.set k c).map byteV := by rw [List.map_set]
set_option maxHeartbeats 1000000 in
theorem sides_Fit (s : List UInt8) (w : Int) (hw : w ≤ 100000) : PC Try.prog 11 [iS s, iI w] [] 0 9 (fun t obs => t = iS (fitB s w) ∧ obs = []) := by
  refine PC.body [4] Try.func11 rfl (by rfl) (Nat.le_of_ble_eq_true (by rfl)) rfl ?_; simp only [enumA]
  ((repeat refine PWp.seq ?_); refine PWp.region TT (by rfl) (fun K hK => ?_); simp only [push_cast, seval, Nat.reduceEqDiff, Nat.reduceLeDiff, reduceCtorEq]; (repeat refine sk ?_); refine hK _ ?_; clear hK K)
  ((repeat refine PWp.seq ?_); refine PWp.region TT (by rfl) (fun K hK => ?_); simp only [push_cast, seval, Nat.reduceEqDiff, Nat.reduceLeDiff, reduceCtorEq]; (repeat refine sk ?_); refine hK _ ?_; clear hK K)
  ((repeat refine PWp.seq ?_); refine PWp.cond (by simp only [push_cast, seval, Nat.reduceEqDiff, Nat.reduceLeDiff, reduceCtorEq]; rfl) (fun hc => ?_) (fun hc => ?_))
  · have e : fitB s w = [] := if_pos (of_decide_eq_true hc)
    ((repeat refine PWp.seq ?_); refine PWp.region TT (by rfl) (fun K hK => ?_); simp only [push_cast, seval, Nat.reduceEqDiff, Nat.reduceLeDiff, reduceCtorEq]; (repeat refine sk ?_); refine hK _ ?_; clear hK K)
    ((repeat refine PWp.seq ?_); refine PWp.ret ?_)
    refine ⟨.inr rfl, by omega, _, [], ?_, rfl, rfl⟩
    rw [e]
    (simp [push_cast, -List.getD_eq_getElem?_getD])
  have hw1 : 1 ≤ w := by have := of_decide_eq_false hc; omega
  clear hc
  obtain ⟨v, rfl⟩ : ∃ v : Nat, w = v := ⟨w.toNat, by omega⟩
  have e : fitB s v = fitN s v v := if_neg (by omega)
  rw [e]
  clear e
  ((repeat refine PWp.seq ?_); refine PWp.skip ?_)
  ((repeat refine PWp.seq ?_); refine PWp.region TT (by rfl) (fun K hK => ?_); simp only [push_cast, seval, Nat.reduceEqDiff, Nat.reduceLeDiff, reduceCtorEq]; (repeat refine sk ?_); refine hK _ ?_; clear hK K)
  refine PWp.gh (Gh.accm 5 0 (by rfl) (by rfl)) ?_
  have hm : mn (s.length : Int) v = ((min s.length v : Nat) : Int) := by unfold mn; split <;> omega
  ((repeat refine PWp.seq ?_); refine PWp.region TT (by rfl) (fun K hK => ?_); simp only [push_cast, seval, Nat.reduceEqDiff, Nat.reduceLeDiff, reduceCtorEq, hm]; (repeat refine sk ?_); refine hK _ ?_; clear hK K)
  generalize hn : min s.length v = n at *
  refine PWp.gh (st' := ⟨[(0, iS s), (1, iI v), (5, .mrow 0), (13, iI n), (14, iI 0)], [(0, .mrow 5 1 [])], 1⟩) (Gh.leR [1] (by simp [push_cast, -List.getD_eq_getElem?_getD]; try decide)) ?_
  ((repeat refine PWp.seq ?_); refine PWp.block ?_)
  refine PWp.loop (fun c st => ∃ k : Nat, c = n - k ∧ k ≤ n ∧
    st = ⟨[(0, iS s), (1, iI v), (5, .mrow 0), (13, iI n), (14, iI k)], [(0, .mrow 5 1 ((pB s k).map byteV))], 1⟩) _ _ ⟨0, rfl, Nat.zero_le _, rfl⟩ (Gh.le (by simp [push_cast, -List.getD_eq_getElem?_getD, pB]) (by simp)) ?_
  rintro c st ⟨k, rfl, hk, rfl⟩
  ((repeat refine PWp.seq ?_); refine PWp.region TT (by rfl) (fun K hK => ?_); simp only [push_cast, seval, Nat.reduceEqDiff, Nat.reduceLeDiff, reduceCtorEq]; (repeat refine sk ?_); refine hK _ ?_; clear hK K)
  ((repeat refine PWp.seq ?_); refine PWp.cond (by simp only [push_cast, seval, Nat.reduceEqDiff, Nat.reduceLeDiff, reduceCtorEq]; rfl) (fun hc => ?_) (fun hc => ?_))
  · have hlt : k < n := by have := of_decide_eq_true hc; omega
    clear hc
    have hs := pB_succ (s := s) (k := k) (by omega)
    have hpl := pB_len (s := s) (k := k) (by omega)
    generalize hx : s.getD k 0 = x at *
    ((repeat refine PWp.seq ?_); refine PWp.skip ?_)
    ((repeat refine PWp.seq ?_); refine PWp.block ?_)
    ((repeat refine PWp.seq ?_); refine PWp.region TT (by rfl) (fun K hK => ?_); simp only [push_cast, seval, Nat.reduceEqDiff, Nat.reduceLeDiff, reduceCtorEq]; (repeat refine sk ?_); refine hK _ ?_; clear hK K)
    ((repeat refine PWp.seq ?_); refine PWp.region TT (by rfl) (fun K hK => ?_); simp only [push_cast, seval, Nat.reduceEqDiff, Nat.reduceLeDiff, reduceCtorEq, hx])
    ((repeat refine sk ?_); refine PCall.use (sides_plain x) [] rfl (by simp [push_cast]) (by simp) (by simp [push_cast]) (by simp [push_cast]) (by simp [push_cast]) (by simp [push_cast]) ?_)
    rintro _ _ ⟨rfl, rfl⟩
    (simp only [push_cast, seval, Nat.reduceEqDiff, Nat.reduceLeDiff, reduceCtorEq]; (repeat refine sk ?_); refine hK _ ?_; clear hK K)
    ((repeat refine PWp.seq ?_); refine PWp.region TT (by rfl) (fun K hK => ?_); simp only [push_cast, seval, Nat.reduceEqDiff, Nat.reduceLeDiff, reduceCtorEq, wrap64_id (n := (k : Int) + 1) (by omega) (by omega)]; (repeat refine sk ?_); refine hK _ ?_; clear hK K)
    refine ⟨_, _, ?_, ⟨k + 1, rfl, by omega, rfl⟩, Gh.leR [1] (by simp [push_cast, -List.getD_eq_getElem?_getD, hs, byteV]; try decide)⟩
    omega
  · have hkn : k = n := by have := of_decide_eq_false hc; omega
    subst hkn
    clear hc
    have hpl := pB_len (s := s) (k := k) (by omega)
    (repeat refine PWp.seq ?_); refine PWp.exit (iteT rfl ?_)
    refine PJoin ⟨[(1, iI v), (5, .mrow 0)], [(0, .mrow 5 1 ((fitN s v k).map byteV))], 1⟩ ?_ ?_
    · ((repeat refine PWp.seq ?_); refine PWp.region TT (by rfl) (fun K hK => ?_); simp only [push_cast, seval, Nat.reduceEqDiff, Nat.reduceLeDiff, reduceCtorEq]; (repeat refine sk ?_); refine hK _ ?_; clear hK K)
      ((repeat refine PWp.seq ?_); refine PWp.cond (by simp only [push_cast, seval, Nat.reduceEqDiff, Nat.reduceLeDiff, reduceCtorEq]; rfl) (fun hc => ?_) (fun hc => ?_))
      · have hb : v < s.length := by have := of_decide_eq_true hc; omega
        have hkv : k = v := by omega
        subst hkv
        have hs := fitN_big hb (by omega)
        have t1 : ((k : Int) - 1).toNat = k - 1 := by omega
        have hset := set_byteV (pB s k) (k - 1) 62
        rw [← hs] at hset
        have hgb : ((pB s k).map byteV).getD (k - 1) .any = .lit (.int .u8 ((pB s k).getD (k - 1) default).toNat) := getD_map (f := byteV) (by omega)
        have h62 : byteV 62 = .lit (.int .u8 62) := rfl
        rw [h62] at hset
        ((repeat refine PWp.seq ?_); refine PWp.region TT (by rfl) (fun K hK => ?_); simp only [push_cast, seval, Nat.reduceEqDiff, Nat.reduceLeDiff, reduceCtorEq, t1, hpl, hgb, wrap64_id (n := (k : Int) - 1) (by omega) (by omega)]; (repeat refine sk ?_); refine hK _ ?_; clear hK K)
        exact ⟨rfl, Gh.le (by simp [push_cast, -List.getD_eq_getElem?_getD, hset]) (by simp)⟩
      · have hb : ¬ v < s.length := by have := of_decide_eq_false hc; omega
        have hs := fitN_small (s := s) (w := v) (by omega) k (by omega)
        ((repeat refine PWp.seq ?_); refine PWp.skip ?_)
        exact ⟨rfl, Gh.le (by simp [push_cast, -List.getD_eq_getElem?_getD, hs]) (by simp)⟩
    ((repeat refine PWp.seq ?_); refine PWp.block ?_)
    refine PWp.loop (fun c st => ∃ j : Nat, c = v - j ∧ j ≤ v ∧ (j < v → s.length ≤ j) ∧
      st = ⟨[(1, iI v), (5, .mrow 0)], [(0, .mrow 5 1 ((fitN s v j).map byteV))], 1⟩) _ _ ⟨k, rfl, by omega, by omega, rfl⟩ (Gh.le (by simp [push_cast, -List.getD_eq_getElem?_getD]) (by simp)) ?_
    rintro c st ⟨j, rfl, hj, hjs, rfl⟩
    have hfl := fitN_len s v j
    ((repeat refine PWp.seq ?_); refine PWp.region TT (by rfl) (fun K hK => ?_); simp only [push_cast, seval, Nat.reduceEqDiff, Nat.reduceLeDiff, reduceCtorEq, hfl]; (repeat refine sk ?_); refine hK _ ?_; clear hK K)
    ((repeat refine PWp.seq ?_); refine PWp.cond (by simp only [push_cast, seval, Nat.reduceEqDiff, Nat.reduceLeDiff, reduceCtorEq]; rfl) (fun hc => ?_) (fun hc => ?_))
    · have hlt : j < v := by have := of_decide_eq_true hc; omega
      clear hc
      have hs := fitN_succ s v j
      have hx : fB s v j = 32 := by
        unfold fB
        rw [if_neg (by omega), if_neg (by omega)]
      rw [hx] at hs
      ((repeat refine PWp.seq ?_); refine PWp.skip ?_)
      ((repeat refine PWp.seq ?_); refine PWp.block ?_)
      ((repeat refine PWp.seq ?_); refine PWp.region TT (by rfl) (fun K hK => ?_); simp only [push_cast, seval, Nat.reduceEqDiff, Nat.reduceLeDiff, reduceCtorEq, hfl]; (repeat refine sk ?_); refine hK _ ?_; clear hK K)
      refine ⟨_, _, ?_, ⟨j + 1, rfl, by omega, fun _ => by omega, rfl⟩, Gh.leR [1] (by simp [push_cast, -List.getD_eq_getElem?_getD, hs, byteV]; try decide)⟩
      omega
    · have hlt : j = v := by have := of_decide_eq_false hc; omega
      subst hlt
      (repeat refine PWp.seq ?_); refine PWp.exit (iteT rfl ?_)
      refine PWp.gh (Gh.freeze 0 (by rfl)) ?_
      ((repeat refine PWp.seq ?_); refine PWp.region TT (by rfl) (fun K hK => ?_); simp only [push_cast, seval, Nat.reduceEqDiff, Nat.reduceLeDiff, reduceCtorEq]; (repeat refine sk ?_); refine hK _ ?_; clear hK K)
      ((repeat refine PWp.seq ?_); refine PWp.ret ?_)
      refine ⟨.inr rfl, by omega, _, [], ?_, rfl, rfl⟩
      (simp [push_cast, -List.getD_eq_getElem?_getD])
theorem one_byte {s : List UInt8} {k : Nat} (h : k < s.length) : (s.take (k + 1)).drop k = [s.getD k 0] := by
  rw [List.take_add_one, List.drop_left' (by rw [List.length_take]; omega)]
  simp [List.getD, h]
set_option maxHeartbeats 1000000 in
theorem ref29_Fit (s : List UInt8) (w : Int) (hw : w ≤ 100000) : PC Try.prog 12 [iS s, iI w] [] 0 0 (fun t obs => t = iS (fitB s w) ∧ obs = []) := by
  refine PC.body [4] Try.func12 rfl (by rfl) (Nat.le_of_ble_eq_true (by rfl)) rfl ?_; simp only [enumA]
  ((repeat refine PWp.seq ?_); refine PWp.region TT (by rfl) (fun K hK => ?_); simp only [push_cast, seval, Nat.reduceEqDiff, Nat.reduceLeDiff, reduceCtorEq]; (repeat refine sk ?_); refine hK _ ?_; clear hK K)
  ((repeat refine PWp.seq ?_); refine PWp.region TT (by rfl) (fun K hK => ?_); simp only [push_cast, seval, Nat.reduceEqDiff, Nat.reduceLeDiff, reduceCtorEq]; (repeat refine sk ?_); refine hK _ ?_; clear hK K)
  ((repeat refine PWp.seq ?_); refine PWp.cond (by simp only [push_cast, seval, Nat.reduceEqDiff, Nat.reduceLeDiff, reduceCtorEq]; rfl) (fun hc => ?_) (fun hc => ?_))
  · have e : fitB s w = [] := if_pos (of_decide_eq_true hc)
    ((repeat refine PWp.seq ?_); refine PWp.region TT (by rfl) (fun K hK => ?_); simp only [push_cast, seval, Nat.reduceEqDiff, Nat.reduceLeDiff, reduceCtorEq]; (repeat refine sk ?_); refine hK _ ?_; clear hK K)
    ((repeat refine PWp.seq ?_); refine PWp.ret ?_)
    refine ⟨.inr rfl, by omega, _, [], ?_, rfl, rfl⟩
    rw [e]
    (simp [push_cast, -List.getD_eq_getElem?_getD])
  have hw1 : 1 ≤ w := by have := of_decide_eq_false hc; omega
  clear hc
  obtain ⟨v, rfl⟩ : ∃ v : Nat, w = v := ⟨w.toNat, by omega⟩
  have e : fitB s v = fitN s v v := if_neg (by omega)
  rw [e]
  clear e
  ((repeat refine PWp.seq ?_); refine PWp.skip ?_)
  ((repeat refine PWp.seq ?_); refine PWp.region TT (by rfl) (fun K hK => ?_); simp only [push_cast, seval, Nat.reduceEqDiff, Nat.reduceLeDiff, reduceCtorEq]; (repeat refine sk ?_); refine hK _ ?_; clear hK K)
  ((repeat refine PWp.seq ?_); refine PWp.region TT (by rfl) (fun K hK => ?_); simp only [push_cast, seval, Nat.reduceEqDiff, Nat.reduceLeDiff, reduceCtorEq]; (repeat refine sk ?_); refine hK _ ?_; clear hK K)
  ((repeat refine PWp.seq ?_); refine PWp.block ?_)
  refine PWp.loop (fun c st => ∃ k : Nat, c = v - k ∧ k ≤ v ∧
    st = ⟨[(0, iS s), (1, iI v), (5, iS (fitN s v k)), (6, iI k)], [], 0⟩) _ _ ⟨0, rfl, Nat.zero_le _, rfl⟩ (Gh.le (by simp [push_cast, -List.getD_eq_getElem?_getD, fitN]) (by simp)) ?_
  rintro c st ⟨k, rfl, hk, rfl⟩
  ((repeat refine PWp.seq ?_); refine PWp.region TT (by rfl) (fun K hK => ?_); simp only [push_cast, seval, Nat.reduceEqDiff, Nat.reduceLeDiff, reduceCtorEq]; (repeat refine sk ?_); refine hK _ ?_; clear hK K)
  ((repeat refine PWp.seq ?_); refine PWp.cond (by simp only [push_cast, seval, Nat.reduceEqDiff, Nat.reduceLeDiff, reduceCtorEq]; rfl) (fun hc => ?_) (fun hc => ?_))
  · have hlt : k < v := by have := of_decide_eq_true hc; omega
    clear hc
    have hs := fitN_succ s v k
    have hfl := fitN_len s v k
    have w1 := wrap64_id (n := (v : Int) - 1) (by omega) (by omega)
    have w2 := wrap64_id (n := (k : Int) + 1) (by omega) (by omega)
    ((repeat refine PWp.seq ?_); refine PWp.skip ?_)
    ((repeat refine PWp.seq ?_); refine PWp.block ?_)
    ((repeat refine PWp.seq ?_); refine PWp.region TT (by rfl) (fun K hK => ?_); simp only [push_cast, seval, Nat.reduceEqDiff, Nat.reduceLeDiff, reduceCtorEq, w1]; (repeat refine sk ?_); refine hK _ ?_; clear hK K)
    ((repeat refine PWp.seq ?_); refine PWp.cond (by simp only [push_cast, seval, Nat.reduceEqDiff, Nat.reduceLeDiff, reduceCtorEq]; rfl) (fun hc => ?_) (fun hc => ?_))
    · have hx : fB s v k = 62 := by
        unfold fB
        rw [if_pos (by simp only [Bool.or_eq_true, Bool.and_eq_true, Bool.not_eq_true', Bool.not_eq_false', Bool.or_eq_false_iff, Bool.and_eq_false_iff, decide_eq_true_eq, decide_eq_false_iff_not, beq_iff_eq, beq_eq_false_iff_ne, bne_iff_ne, bne_eq_false_iff_eq, ne_eq, Classical.not_not, Int.not_lt, Int.not_le, ge_iff_le, gt_iff_lt] at hc; omega)]
      rw [hx] at hs
      ((repeat refine PWp.seq ?_); refine PWp.region TT (by rfl) (fun K hK => ?_); simp only [push_cast, seval, Nat.reduceEqDiff, Nat.reduceLeDiff, reduceCtorEq, hfl]; (repeat refine sk ?_); refine hK _ ?_; clear hK K)
      ((repeat refine PWp.seq ?_); refine PWp.region TT (by rfl) (fun K hK => ?_); simp only [push_cast, seval, Nat.reduceEqDiff, Nat.reduceLeDiff, reduceCtorEq, w2]; (repeat refine sk ?_); refine hK _ ?_; clear hK K)
      refine ⟨_, _, ?_, ⟨k + 1, rfl, by omega, rfl⟩, Gh.le (by simp [push_cast, -List.getD_eq_getElem?_getD, hs]) (by simp)⟩
      omega
    have h0 : ¬ (k + 1 = v ∧ v < s.length) := by simp only [Bool.or_eq_true, Bool.and_eq_true, Bool.not_eq_true', Bool.not_eq_false', Bool.or_eq_false_iff, Bool.and_eq_false_iff, decide_eq_true_eq, decide_eq_false_iff_not, beq_iff_eq, beq_eq_false_iff_ne, bne_iff_ne, bne_eq_false_iff_eq, ne_eq, Classical.not_not, Int.not_lt, Int.not_le, ge_iff_le, gt_iff_lt] at hc; omega
    clear hc
    ((repeat refine PWp.seq ?_); refine PWp.region TT (by rfl) (fun K hK => ?_); simp only [push_cast, seval, Nat.reduceEqDiff, Nat.reduceLeDiff, reduceCtorEq]; (repeat refine sk ?_); refine hK _ ?_; clear hK K)
    ((repeat refine PWp.seq ?_); refine PWp.cond (by simp only [push_cast, seval, Nat.reduceEqDiff, Nat.reduceLeDiff, reduceCtorEq]; rfl) (fun hc => ?_) (fun hc => ?_))
    · have hx : fB s v k = 32 := by
        unfold fB
        rw [if_neg h0, if_neg (by have := of_decide_eq_true hc; omega)]
      rw [hx] at hs
      ((repeat refine PWp.seq ?_); refine PWp.region TT (by rfl) (fun K hK => ?_); simp only [push_cast, seval, Nat.reduceEqDiff, Nat.reduceLeDiff, reduceCtorEq, hfl]; (repeat refine sk ?_); refine hK _ ?_; clear hK K)
      ((repeat refine PWp.seq ?_); refine PWp.region TT (by rfl) (fun K hK => ?_); simp only [push_cast, seval, Nat.reduceEqDiff, Nat.reduceLeDiff, reduceCtorEq, w2]; (repeat refine sk ?_); refine hK _ ?_; clear hK K)
      refine ⟨_, _, ?_, ⟨k + 1, rfl, by omega, rfl⟩, Gh.le (by simp [push_cast, -List.getD_eq_getElem?_getD, hs]) (by simp)⟩
      omega
    have h1 : k < s.length := by have := of_decide_eq_false hc; omega
    clear hc
    have h2 := one_byte h1
    have t1 : ((k : Int) + 1).toNat = k + 1 := by omega
    have hx : fB s v k = plainB (s.getD k 0) := by
      unfold fB
      rw [if_neg h0, if_pos h1]
    rw [hx] at hs
    clear hx
    generalize hx : s.getD k 0 = x at *
    ((repeat refine PWp.seq ?_); refine PWp.region TT (by rfl) (fun K hK => ?_); simp only [push_cast, seval, Nat.reduceEqDiff, Nat.reduceLeDiff, reduceCtorEq, hx]; (repeat refine sk ?_); refine hK _ ?_; clear hK K)
    ((repeat refine PWp.seq ?_); refine PWp.cond (by simp only [push_cast, seval, Nat.reduceEqDiff, Nat.reduceLeDiff, reduceCtorEq]; rfl) (fun hc => ?_) (fun hc => ?_))
    · have hp : plainB x = 46 := if_pos (by simp only [Bool.or_eq_true, Bool.and_eq_true, Bool.not_eq_true', Bool.not_eq_false', Bool.or_eq_false_iff, Bool.and_eq_false_iff, decide_eq_true_eq, decide_eq_false_iff_not, beq_iff_eq, beq_eq_false_iff_ne, bne_iff_ne, bne_eq_false_iff_eq, ne_eq, Classical.not_not, Int.not_lt, Int.not_le, ge_iff_le, gt_iff_lt] at hc; omega)
      rw [hp] at hs
      ((repeat refine PWp.seq ?_); refine PWp.region TT (by rfl) (fun K hK => ?_); simp only [push_cast, seval, Nat.reduceEqDiff, Nat.reduceLeDiff, reduceCtorEq, hfl]; (repeat refine sk ?_); refine hK _ ?_; clear hK K)
      ((repeat refine PWp.seq ?_); refine PWp.region TT (by rfl) (fun K hK => ?_); simp only [push_cast, seval, Nat.reduceEqDiff, Nat.reduceLeDiff, reduceCtorEq, w2]; (repeat refine sk ?_); refine hK _ ?_; clear hK K)
      refine ⟨_, _, ?_, ⟨k + 1, rfl, by omega, rfl⟩, Gh.le (by simp [push_cast, -List.getD_eq_getElem?_getD, hs]) (by simp)⟩
      omega
    · have hp : plainB x = x := if_neg (by simp only [Bool.or_eq_true, Bool.and_eq_true, Bool.not_eq_true', Bool.not_eq_false', Bool.or_eq_false_iff, Bool.and_eq_false_iff, decide_eq_true_eq, decide_eq_false_iff_not, beq_iff_eq, beq_eq_false_iff_ne, bne_iff_ne, bne_eq_false_iff_eq, ne_eq, Classical.not_not, Int.not_lt, Int.not_le, ge_iff_le, gt_iff_lt] at hc; omega)
      rw [hp] at hs
      ((repeat refine PWp.seq ?_); refine PWp.region TT (by rfl) (fun K hK => ?_); simp only [push_cast, seval, Nat.reduceEqDiff, Nat.reduceLeDiff, reduceCtorEq, hfl, w2, t1, h2]; (repeat refine sk ?_); refine hK _ ?_; clear hK K)
      ((repeat refine PWp.seq ?_); refine PWp.region TT (by rfl) (fun K hK => ?_); simp only [push_cast, seval, Nat.reduceEqDiff, Nat.reduceLeDiff, reduceCtorEq, w2]; (repeat refine sk ?_); refine hK _ ?_; clear hK K)
      refine ⟨_, _, ?_, ⟨k + 1, rfl, by omega, rfl⟩, Gh.le (by simp [push_cast, -List.getD_eq_getElem?_getD, hs]) (by simp)⟩
      omega
  · have hkn : k = v := by have := of_decide_eq_false hc; omega
    subst hkn
    (repeat refine PWp.seq ?_); refine PWp.exit (iteT rfl ?_)
    ((repeat refine PWp.seq ?_); refine PWp.region TT (by rfl) (fun K hK => ?_); simp only [push_cast, seval, Nat.reduceEqDiff, Nat.reduceLeDiff, reduceCtorEq]; (repeat refine sk ?_); refine hK _ ?_; clear hK K)
    ((repeat refine PWp.seq ?_); refine PWp.ret ?_)
    refine ⟨.inr rfl, by omega, _, [], ?_, rfl, rfl⟩
    (simp [push_cast, -List.getD_eq_getElem?_getD])
end Go.Proofs.Ytjajefphfhdfkaa
