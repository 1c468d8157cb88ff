/- The document's view of items, and their cut. -/
import Derived.Test.YtanopjcfackblaaE5
namespace Go.Proofs.Ytanopjcfackblaa
open Go.PL
set_option maxRecDepth 100000
set_option linter.unusedSimpArgs false
set_option linter.unusedVariables false
def cutF (l : List It) (o : Lb) : List It := l.filter fun x => belowF x.l o
theorem cutF_succ (l : List It) (o : Lb) {k : Nat} (h : k < l.length) : cutF (l.take (k + 1)) o = cutF (l.take k) o ++ (if belowF (l.getD k default).l o then [l.getD k default] else []) := by
  unfold cutF
  rw [take_succ_getD h, List.filter_append]
  congr 1
  generalize l.getD k default = x
  cases hb : belowF x.l o <;> simp [List.filter, hb]
theorem ref05_Cut (l : List It) (o : Lb) (hl : l.length ≤ 1000000) : PC Try.prog 17 [iIt l, iLb o] [] 0 9 (fun t obs => t = iIt (cutF l o) ∧ obs = []) := by
  refine PC.body [4] Try.func17 rfl (by rfl) (Nat.le_of_ble_eq_true (by rfl)) rfl ?_; simp only [enumA]
  ((repeat refine PWp.seq ?_); refine PWp.region TT (by rfl) (fun K hK => ?_); simp only [push_cast, seval, Nat.reduceEqDiff, Nat.reduceLeDiff, reduceCtorEq]; (repeat refine sk ?_); refine hK _ ?_; clear hK K)
  ((repeat refine PWp.seq ?_); refine PWp.region TT (by rfl) (fun K hK => ?_); simp only [push_cast, seval, Nat.reduceEqDiff, Nat.reduceLeDiff, reduceCtorEq]; (repeat refine sk ?_); refine hK _ ?_; clear hK K)
  ((repeat refine PWp.seq ?_); refine PWp.region TT (by rfl) (fun K hK => ?_); simp only [push_cast, seval, Nat.reduceEqDiff, Nat.reduceLeDiff, reduceCtorEq]; (repeat refine sk ?_); refine hK _ ?_; clear hK K)
  ((repeat refine PWp.seq ?_); refine PWp.block ?_)
  refine PWp.loop (fun c st => ∃ k : Nat, c = l.length - k ∧ k ≤ l.length ∧
    st = ⟨[(0, iIt l), (3, .bptr 0 0), (5, .acc 1 6 ((cutF (l.take k) o).map encIt)), (6, iI k)], [(0, .box 29 [iI o.v, .iv (.lit (.int .u64 o.c))]), (1, .row 41 6)], 2⟩) _ _ ⟨0, rfl, Nat.zero_le _, rfl⟩ (Gh.le (by simp [push_cast, -List.getD_eq_getElem?_getD, cutF]) (by simp)) ?_
  rintro c st ⟨k, rfl, hk, rfl⟩
  ((repeat refine PWp.seq ?_); refine PWp.region TT (by rfl) (fun K hK => ?_); simp only [push_cast, seval, Nat.reduceEqDiff, Nat.reduceLeDiff, reduceCtorEq]; (repeat refine sk ?_); refine hK _ ?_; clear hK K)
  ((repeat refine PWp.seq ?_); refine PWp.cond (by simp only [push_cast, seval, Nat.reduceEqDiff, Nat.reduceLeDiff, reduceCtorEq]; rfl) (fun hc => ?_) (fun hc => ?_))
  · have hlt : k < l.length := by simpa using hc
    clear hc
    have hs := cutF_succ l o hlt
    have hb : (cutF (l.take k) o).length ≤ k := by
      unfold cutF
      have := List.length_filter_le (fun x : It => belowF x.l o) (l.take k)
      rw [List.length_take] at this
      omega
    have hg : (l.map encIt).getD k .any = encIt (l.getD k default) := getD_map hlt
    generalize l.getD k default = x at *
    have hq := ref02_Below_q x.l o
    ((repeat refine PWp.seq ?_); refine PWp.skip ?_)
    ((repeat refine PWp.seq ?_); refine PWp.block ?_)
    ((repeat refine PWp.seq ?_); refine PWp.draw TT (by kernel_rfl) (by kernel_rfl) (by rfl) (by rfl) (fun K hK => ?_); simp only [push_cast, seval, Nat.reduceEqDiff, Nat.reduceLeDiff, reduceCtorEq, hg])
    ((repeat refine sk ?_); refine ⟨_, _, hq, by simp [push_cast], by simp [push_cast], ?_⟩)
    (simp only [push_cast, seval, Nat.reduceEqDiff, Nat.reduceLeDiff, reduceCtorEq]; (repeat refine sk ?_); refine hK _ ?_; clear hK K)
    ((repeat refine PWp.seq ?_); refine PWp.cond (by simp only [push_cast, seval, Nat.reduceEqDiff, Nat.reduceLeDiff, reduceCtorEq]; rfl) (fun hc => ?_) (fun hc => ?_))
    · rw [if_pos hc] at hs
      ((repeat refine PWp.seq ?_); refine PWp.region TT (by rfl) (fun K hK => ?_); simp only [push_cast, seval, Nat.reduceEqDiff, Nat.reduceLeDiff, reduceCtorEq, hg]; (repeat refine sk ?_); refine hK _ ?_; clear hK K)
      ((repeat refine PWp.seq ?_); refine PWp.region TT (by rfl) (fun K hK => ?_); simp only [push_cast, seval, Nat.reduceEqDiff, Nat.reduceLeDiff, reduceCtorEq, wrap64_id (n := (k : Int) + 1) (by omega) (by omega)]; (repeat refine sk ?_); refine hK _ ?_; clear hK K)
      refine ⟨_, _, ?_, ⟨k + 1, rfl, by omega, rfl⟩, Gh.le (by simp [push_cast, -List.getD_eq_getElem?_getD, hs]) (by simp)⟩
      omega
    · rw [hc, if_neg (by decide), List.append_nil] at hs
      ((repeat refine PWp.seq ?_); refine PWp.skip ?_)
      ((repeat refine PWp.seq ?_); refine PWp.region TT (by rfl) (fun K hK => ?_); simp only [push_cast, seval, Nat.reduceEqDiff, Nat.reduceLeDiff, reduceCtorEq, wrap64_id (n := (k : Int) + 1) (by omega) (by omega)]; (repeat refine sk ?_); refine hK _ ?_; clear hK K)
      refine ⟨_, _, ?_, ⟨k + 1, rfl, by omega, rfl⟩, Gh.le (by simp [push_cast, -List.getD_eq_getElem?_getD, hs]) (by simp)⟩
      omega
  · have hk' : k = l.length := by simp at hc; omega
    subst hk'
    rw [List.take_length]
    (repeat refine PWp.seq ?_); refine PWp.exit (iteT rfl ?_)
    ((repeat refine PWp.seq ?_); refine PWp.region TT (by rfl) (fun K hK => ?_); simp only [push_cast, seval, Nat.reduceEqDiff, Nat.reduceLeDiff, reduceCtorEq]; (repeat refine sk ?_); refine hK _ ?_; clear hK K)
    ((repeat refine PWp.seq ?_); refine PWp.ret ?_)
    refine ⟨.inr rfl, by omega, _, [], ?_, rfl, rfl⟩
    (simp [push_cast, -List.getD_eq_getElem?_getD])
/-! ### A view -/
def visK (l : List It) (o : Lb) (k : Nat) : List Nat := (List.range k).filter fun i => belowF (l.getD i default).l o
theorem visK_succ (l : List It) (o : Lb) (k : Nat) : visK l o (k + 1) = visK l o k ++ (if belowF (l.getD k default).l o then [k] else []) := by
  unfold visK
  rw [List.range_succ, List.filter_append]
  congr 1
  cases hb : belowF (l.getD k default).l o <;> simp only [List.filter, hb] <;> rfl
theorem visK_len (l : List It) (o : Lb) (k : Nat) : (visK l o k).length ≤ k := by
  unfold visK
  have := List.length_filter_le (fun i : Nat => belowF (l.getD i default).l o) (List.range k)
  simpa using this
def lastF (v : List Nat) : Int := match v.getLast? with | some i => i | none => -1
theorem lastF_app (v : List Nat) (i : Nat) : lastF (v ++ [i]) = i := by simp [lastF]
def lnV (l : List It) (h : List UInt8) (last : Int) (i : Nat) : Ln := ⟨if (l.getD i default).a then h else (l.getD i default).x.t, (i : Int) == last && (l.getD i default).x.b⟩
def atF (v : List Nat) : List Int := v.map fun i : Nat => (i : Int)
def lnsK (l : List It) (o : Lb) (h : List UInt8) (last : Int) (k : Nat) : List Ln := (visK l o k).map (lnV l h last)
def ofLn (l : List It) (o : Lb) (h : List UInt8) : List Ln := (visK l o l.length).map (lnV l h (lastF (visK l o l.length)))
def ofAt (l : List It) (o : Lb) : List Int := atF (visK l o l.length)
theorem ref05_Of (l : List It) (o : Lb) (h : List UInt8) (hl : l.length ≤ 1000000) : PC Try.prog 15 [iIt l, iLb o, .iv (.lit (.string ⟨h.toArray⟩))] [] 0 9 (fun t obs => t = iV (ofLn l o h) (ofAt l o) ∧ obs = []) := by
  refine PC.bodyG (finC T 6 26) Try.func15 rfl (by rfl) (Nat.le_of_ble_eq_true (by rfl)) (finC_ok TT (by rfl)) ?_; simp only [enumA]
  ((repeat refine PWp.seq ?_); refine PWp.region TT (by rfl) (fun K hK => ?_); simp only [push_cast, seval, Nat.reduceEqDiff, Nat.reduceLeDiff, reduceCtorEq]; (repeat refine sk ?_); refine hK _ ?_; clear hK K)
  ((repeat refine PWp.seq ?_); refine PWp.region TT (by rfl) (fun K hK => ?_); simp only [push_cast, seval, Nat.reduceEqDiff, Nat.reduceLeDiff, reduceCtorEq]; (repeat refine sk ?_); refine hK _ ?_; clear hK K)
  ((repeat refine PWp.seq ?_); refine PWp.region TT (by rfl) (fun K hK => ?_); simp only [push_cast, seval, Nat.reduceEqDiff, Nat.reduceLeDiff, reduceCtorEq]; (repeat refine sk ?_); refine hK _ ?_; clear hK K)
  ((repeat refine PWp.seq ?_); refine PWp.region TT (by rfl) (fun K hK => ?_); simp only [push_cast, seval, Nat.reduceEqDiff, Nat.reduceLeDiff, reduceCtorEq]; (repeat refine sk ?_); refine hK _ ?_; clear hK K)
  ((repeat refine PWp.seq ?_); refine PWp.block ?_)
  refine PWp.loop (fun c st => ∃ k : Nat, c = l.length - k ∧ k ≤ l.length ∧
    st = ⟨[(0, iIt l), (2, .iv (.lit (.string ⟨h.toArray⟩))), (4, .bptr 0 0), (6, .bptr 1 0), (7, .bptr 2 0), (8, iI (lastF (visK l o k))), (9, iI k)],
      [(0, .box 29 [iI o.v, .iv (.lit (.int .u64 o.c))]), (1, .box 26 [.nilsl, .nilsl]), (2, .box 26 [.nilsl, .nilsl])], 3⟩) _ _ ⟨0, rfl, Nat.zero_le _, rfl⟩ (Gh.le (by simp [push_cast, -List.getD_eq_getElem?_getD, visK, lastF]) (by simp)) ?_
  rintro c st ⟨k, rfl, hk, rfl⟩
  ((repeat refine PWp.seq ?_); refine PWp.region TT (by rfl) (fun K hK => ?_); simp only [push_cast, seval, Nat.reduceEqDiff, Nat.reduceLeDiff, reduceCtorEq]; (repeat refine sk ?_); refine hK _ ?_; clear hK K)
  ((repeat refine PWp.seq ?_); refine PWp.cond (by simp only [push_cast, seval, Nat.reduceEqDiff, Nat.reduceLeDiff, reduceCtorEq]; rfl) (fun hc => ?_) (fun hc => ?_))
  · have hlt : k < l.length := by simpa using hc
    clear hc
    have hs := visK_succ l o k
    have hg : (l.map encIt).getD k .any = encIt (l.getD k default) := getD_map hlt
    generalize l.getD k default = x at *
    have hq := ref02_Below_q x.l o
    ((repeat refine PWp.seq ?_); refine PWp.skip ?_)
    ((repeat refine PWp.seq ?_); refine PWp.block ?_)
    ((repeat refine PWp.seq ?_); refine PWp.draw TT (by kernel_rfl) (by kernel_rfl) (by rfl) (by rfl) (fun K hK => ?_); simp only [push_cast, seval, Nat.reduceEqDiff, Nat.reduceLeDiff, reduceCtorEq, hg])
    ((repeat refine sk ?_); refine ⟨_, _, hq, by simp [push_cast], by simp [push_cast], ?_⟩)
    (simp only [push_cast, seval, Nat.reduceEqDiff, Nat.reduceLeDiff, reduceCtorEq]; (repeat refine sk ?_); refine hK _ ?_; clear hK K)
    ((repeat refine PWp.seq ?_); refine PWp.cond (by simp only [push_cast, seval, Nat.reduceEqDiff, Nat.reduceLeDiff, reduceCtorEq]; rfl) (fun hc => ?_) (fun hc => ?_))
    · rw [if_pos hc] at hs
      have hs' : lastF (visK l o (k + 1)) = k := by rw [hs, lastF_app]
      ((repeat refine PWp.seq ?_); refine PWp.region TT (by rfl) (fun K hK => ?_); simp only [push_cast, seval, Nat.reduceEqDiff, Nat.reduceLeDiff, reduceCtorEq]; (repeat refine sk ?_); refine hK _ ?_; clear hK K)
      ((repeat refine PWp.seq ?_); refine PWp.region TT (by rfl) (fun K hK => ?_); simp only [push_cast, seval, Nat.reduceEqDiff, Nat.reduceLeDiff, reduceCtorEq, wrap64_id (n := (k : Int) + 1) (by omega) (by omega)]; (repeat refine sk ?_); refine hK _ ?_; clear hK K)
      refine ⟨_, _, ?_, ⟨k + 1, rfl, by omega, rfl⟩, Gh.le (by simp [push_cast, -List.getD_eq_getElem?_getD, hs']) (by simp)⟩
      omega
    · rw [hc, if_neg (by decide), List.append_nil] at hs
      ((repeat refine PWp.seq ?_); refine PWp.skip ?_)
      ((repeat refine PWp.seq ?_); refine PWp.region TT (by rfl) (fun K hK => ?_); simp only [push_cast, seval, Nat.reduceEqDiff, Nat.reduceLeDiff, reduceCtorEq, wrap64_id (n := (k : Int) + 1) (by omega) (by omega)]; (repeat refine sk ?_); refine hK _ ?_; clear hK K)
      refine ⟨_, _, ?_, ⟨k + 1, rfl, by omega, rfl⟩, Gh.le (by simp [push_cast, -List.getD_eq_getElem?_getD, hs]) (by simp)⟩
      omega
  · have hk' : k = l.length := by simp at hc; omega
    subst hk'
    (repeat refine PWp.seq ?_); refine PWp.exit (iteT rfl ?_)
    ((repeat refine PWp.seq ?_); refine PWp.region TT (by rfl) (fun K hK => ?_); simp only [push_cast, seval, Nat.reduceEqDiff, Nat.reduceLeDiff, reduceCtorEq]; (repeat refine sk ?_); refine hK _ ?_; clear hK K)
    refine PWp.gh (Gh.rowc 2 0 39 2 (by rfl) (by rfl)) ?_
    refine PWp.gh (Gh.rowc 2 1 3 1 (by rfl) (by rfl)) ?_
    have hO : ofLn l o h = lnsK l o h (lastF (visK l o l.length)) l.length := rfl
    have hA : ofAt l o = atF (visK l o l.length) := rfl
    generalize lastF (visK l o l.length) = last at *
    ((repeat refine PWp.seq ?_); refine PWp.block ?_)
    refine PWp.loop (fun c st => ∃ k : Nat, c = l.length - k ∧ k ≤ l.length ∧
      st = ⟨[(0, iIt l), (2, .iv (.lit (.string ⟨h.toArray⟩))), (4, .bptr 0 0), (6, .bptr 1 0), (7, .bptr 2 0), (8, iI last), (10, iI k)],
        [(0, .box 29 [iI o.v, .iv (.lit (.int .u64 o.c))]), (1, .box 26 [.nilsl, .nilsl]), (2, .box 26 [.acc 3 2 ((lnsK l o h last k).map encL), .acc 4 1 ((atF (visK l o k)).map encI)]),
          (3, .row 39 2), (4, .row 3 1)], 5⟩) _ _ ⟨0, rfl, Nat.zero_le _, rfl⟩ (Gh.le (by simp [push_cast, -List.getD_eq_getElem?_getD, lnsK, visK, atF]) (by simp)) ?_
    rintro c st ⟨k, rfl, hk, rfl⟩
    ((repeat refine PWp.seq ?_); refine PWp.region TT (by rfl) (fun K hK => ?_); simp only [push_cast, seval, Nat.reduceEqDiff, Nat.reduceLeDiff, reduceCtorEq]; (repeat refine sk ?_); refine hK _ ?_; clear hK K)
    ((repeat refine PWp.seq ?_); refine PWp.cond (by simp only [push_cast, seval, Nat.reduceEqDiff, Nat.reduceLeDiff, reduceCtorEq]; rfl) (fun hc => ?_) (fun hc => ?_))
    · have hlt : k < l.length := by simpa using hc
      clear hc
      have hs := visK_succ l o k
      have hb := visK_len l o k
      have hb2 : (atF (visK l o k)).length = (visK l o k).length := by simp [atF]
      have hg : (l.map encIt).getD k .any = encIt (l.getD k default) := getD_map hlt
      have hln : lnV l h last k = ⟨if (l.getD k default).a then h else (l.getD k default).x.t, (k : Int) == last && (l.getD k default).x.b⟩ := rfl
      generalize l.getD k default = x at *
      have hq := ref02_Below_q x.l o
      ((repeat refine PWp.seq ?_); refine PWp.skip ?_)
      ((repeat refine PWp.seq ?_); refine PWp.block ?_)
      ((repeat refine PWp.seq ?_); refine PWp.draw TT (by kernel_rfl) (by kernel_rfl) (by rfl) (by rfl) (fun K hK => ?_); simp only [push_cast, seval, Nat.reduceEqDiff, Nat.reduceLeDiff, reduceCtorEq, hg])
      ((repeat refine sk ?_); refine ⟨_, _, hq, by simp [push_cast], by simp [push_cast], ?_⟩)
      (simp only [push_cast, seval, Nat.reduceEqDiff, Nat.reduceLeDiff, reduceCtorEq]; (repeat refine sk ?_); refine hK _ ?_; clear hK K)
      ((repeat refine PWp.seq ?_); refine PWp.cond (by simp only [push_cast, seval, Nat.reduceEqDiff, Nat.reduceLeDiff, reduceCtorEq]; rfl) (fun hc => ?_) (fun hc => ?_))
      · have hb0 : belowF x.l o = false := by simpa using hc
        rw [hb0, if_neg (by decide), List.append_nil] at hs
        have hs1 : lnsK l o h last (k + 1) = lnsK l o h last k := by unfold lnsK; rw [hs]
        (repeat refine PWp.seq ?_); refine PWp.exit (iteT rfl ?_)
        ((repeat refine PWp.seq ?_); refine PWp.region TT (by rfl) (fun K hK => ?_); simp only [push_cast, seval, Nat.reduceEqDiff, Nat.reduceLeDiff, reduceCtorEq, wrap64_id (n := (k : Int) + 1) (by omega) (by omega)]; (repeat refine sk ?_); refine hK _ ?_; clear hK K)
        refine ⟨_, _, ?_, ⟨k + 1, rfl, by omega, rfl⟩, Gh.le (by simp [push_cast, -List.getD_eq_getElem?_getD, hs, hs1]) (by simp)⟩
        omega
      · have hb0 : belowF x.l o = true := by simpa using hc
        clear hc
        rw [hb0, if_pos rfl] at hs
        have hs1 : lnsK l o h last (k + 1) = lnsK l o h last k ++ [lnV l h last k] := by unfold lnsK; rw [hs]; simp
        have hs2 : atF (visK l o (k + 1)) = atF (visK l o k) ++ [(k : Int)] := by rw [hs]; simp [atF]
        rw [hln] at hs1
        have hb1 : (lnsK l o h last k).length = (visK l o k).length := by simp [lnsK]
        ((repeat refine PWp.seq ?_); refine PWp.skip ?_)
        ((repeat refine PWp.seq ?_); refine PWp.drawT TT (by kernel_rfl) [] (.q 0 (.q 1 (.q 2 (.q 3 (.q 4 (.q 5 (.q 6 (.q 7 (.q 8 (.q 9 (.q 10 (.q 11 (.q 12 (.q 13 (.q 14 (.q 15 (.q 16 (.q 17 (.x 18 (.x 19 .nil)))))))))))))))))))) (by rfl) (by kernel_rfl) (by rfl) (by simp) (fun K hK => ?_); simp only [push_cast, seval, Nat.reduceEqDiff, Nat.reduceLeDiff, reduceCtorEq, hg]; (repeat refine sk ?_); refine hK _ ?_; clear hK K)
        ((repeat refine PWp.seq ?_); refine PWp.region TT (by rfl) (fun K hK => ?_); simp only [push_cast, seval, Nat.reduceEqDiff, Nat.reduceLeDiff, reduceCtorEq, hg]; (repeat refine sk ?_); refine hK _ ?_; clear hK K)
        ((repeat refine PWp.seq ?_); refine PWp.cond (by simp only [push_cast, seval, Nat.reduceEqDiff, Nat.reduceLeDiff, reduceCtorEq]; rfl) (fun hc => ?_) (fun hc => ?_))
        · rw [if_pos hc] at hs1
          ((repeat refine PWp.seq ?_); refine PWp.region TT (by rfl) (fun K hK => ?_); simp only [push_cast, seval, Nat.reduceEqDiff, Nat.reduceLeDiff, reduceCtorEq]; (repeat refine sk ?_); refine hK _ ?_; clear hK K)
          ((repeat refine PWp.seq ?_); refine PWp.region TT (by rfl) (fun K hK => ?_); simp only [push_cast, seval, Nat.reduceEqDiff, Nat.reduceLeDiff, reduceCtorEq]; (repeat refine sk ?_); refine hK _ ?_; clear hK K)
          ((repeat refine PWp.seq ?_); refine PWp.region TT (by rfl) (fun K hK => ?_); simp only [push_cast, seval, Nat.reduceEqDiff, Nat.reduceLeDiff, reduceCtorEq]; (repeat refine sk ?_); refine hK _ ?_; clear hK K)
          ((repeat refine PWp.seq ?_); refine PWp.region TT (by rfl) (fun K hK => ?_); simp only [push_cast, seval, Nat.reduceEqDiff, Nat.reduceLeDiff, reduceCtorEq, wrap64_id (n := (k : Int) + 1) (by omega) (by omega)]; (repeat refine sk ?_); refine hK _ ?_; clear hK K)
          refine ⟨_, _, ?_, ⟨k + 1, rfl, by omega, rfl⟩, Gh.le (by simp [push_cast, -List.getD_eq_getElem?_getD, hs1, hs2]) (by simp)⟩
          omega
        · rw [hc, if_neg (by decide)] at hs1
          ((repeat refine PWp.seq ?_); refine PWp.skip ?_)
          ((repeat refine PWp.seq ?_); refine PWp.region TT (by rfl) (fun K hK => ?_); simp only [push_cast, seval, Nat.reduceEqDiff, Nat.reduceLeDiff, reduceCtorEq]; (repeat refine sk ?_); refine hK _ ?_; clear hK K)
          ((repeat refine PWp.seq ?_); refine PWp.region TT (by rfl) (fun K hK => ?_); simp only [push_cast, seval, Nat.reduceEqDiff, Nat.reduceLeDiff, reduceCtorEq]; (repeat refine sk ?_); refine hK _ ?_; clear hK K)
          ((repeat refine PWp.seq ?_); refine PWp.region TT (by rfl) (fun K hK => ?_); simp only [push_cast, seval, Nat.reduceEqDiff, Nat.reduceLeDiff, reduceCtorEq, wrap64_id (n := (k : Int) + 1) (by omega) (by omega)]; (repeat refine sk ?_); refine hK _ ?_; clear hK K)
          refine ⟨_, _, ?_, ⟨k + 1, rfl, by omega, rfl⟩, Gh.le (by simp [push_cast, -List.getD_eq_getElem?_getD, hs1, hs2]) (by simp)⟩
          omega
    · have hk' : k = l.length := by simp at hc; omega
      subst hk'
      (repeat refine PWp.seq ?_); refine PWp.exit (iteT rfl ?_)
      ((repeat refine PWp.seq ?_); refine PWp.region TT (by rfl) (fun K hK => ?_); simp only [push_cast, seval, Nat.reduceEqDiff, Nat.reduceLeDiff, reduceCtorEq]; (repeat refine sk ?_); refine hK _ ?_; clear hK K)
      ((repeat refine PWp.seq ?_); refine PWp.ret ?_)
      refine ⟨.inr rfl, by omega, _, [], ?_, rfl, rfl⟩
      rw [hO, hA]
      (simp [push_cast, -List.getD_eq_getElem?_getD])
end Go.Proofs.Ytanopjcfackblaa
