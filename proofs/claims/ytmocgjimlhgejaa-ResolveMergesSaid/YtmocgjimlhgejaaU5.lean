/- Parse: what it computes, and its walk. -/
import Derived.Test.YtmocgjimlhgejaaU4
namespace Go.Proofs.Ytmocgjimlhgejaa
open Go.PL
set_option maxRecDepth 100000
set_option linter.unusedSimpArgs false
set_option linter.unusedVariables false
/-- The regions, the line, the error. -/
def parF : Rd → Nat → List Ln → List Rg × Int × Int
  | r, _, [] => if r.p = 0 then ((flushR r).out, 0, 0) else ([], 0, 3)
  | r, k, x :: l => match takeR r x with
    | none => ([], (k : Int) + 1, 3)
    | some r' => parF r' (k + 1) l
def rd0 : Rd := ⟨[], noRg, 0⟩
def parR (l : List Ln) : List Rg × Int × Int := parF rd0 0 l
def rdOK (r : Rd) (k : Nat) : Prop := r.p < 4 ∧ r.out.length ≤ k ∧ r.now.l.length ≤ k ∧ r.now.m.length ≤ k ∧ r.now.o.length ≤ k ∧ r.now.h.length ≤ k
theorem rdOK_take {r r' : Rd} {k : Nat} {x : Ln} (h : rdOK r k) (ht : takeR r x = some r') : rdOK r' (k + 1) := by
  obtain ⟨out, ⟨c, a1, a2, a3, a4⟩, p⟩ := r
  obtain ⟨hp, h0, h1, h2, h3, h4⟩ := h
  simp only at hp h0 h1 h2 h3 h4
  have hf : (flushR ⟨out, ⟨c, a1, a2, a3, a4⟩, p⟩).out.length ≤ k + 1 := by
    simp only [flushR]
    split
    · simp; omega
    · omega
  unfold takeR at ht
  split at ht
  · injection ht with ht
    subst ht
    unfold takeL
    simp only
    split
    · exact ⟨hp, by simp only; omega, by simp; omega, by simp only; omega, by simp only; omega, by simp only; omega⟩
    · split
      · exact ⟨hp, by simp only; omega, by simp only; omega, by simp; omega, by simp only; omega, by simp only; omega⟩
      · split
        · exact ⟨hp, by simp only; omega, by simp only; omega, by simp only; omega, by simp; omega, by simp only; omega⟩
        · exact ⟨hp, by simp only; omega, by simp only; omega, by simp only; omega, by simp only; omega, by simp; omega⟩
  · split at ht
    · injection ht with ht
      subst ht
      unfold markR
      simp only
      have ho : (if p = 0 ∨ p = 3 then (flushR ⟨out, ⟨c, a1, a2, a3, a4⟩, p⟩).out else out).length ≤ k + 1 := by
        split
        · exact hf
        · omega
      by_cases p0 : p = 0
      · rw [if_pos p0]
        exact ⟨by simp only; omega, ho, by simp, by simp, by simp, by simp⟩
      · rw [if_neg p0]
        by_cases p3 : p = 3
        · rw [if_pos p3]
          exact ⟨by simp only; omega, ho, by simp [noRg], by simp [noRg], by simp [noRg], by simp [noRg]⟩
        · rw [if_neg p3]
          exact ⟨by simp only; omega, ho, by simp only; omega, by simp only; omega, by simp only; omega, by simp only; omega⟩
    · cases ht
/-- The objects of Parse. -/
def prS (o : TV) (r : Rd) (n : Int) : List (Nat × Ob) := [(0, .box 23 [o]), (1, .box 3 [iI 0]), (2, .box 24 [iI 0]),
  (3, .box 61 [.acc 5 5 (r.out.map encR), iB r.now.c, .acc 6 2 (r.now.l.map encL), .acc 7 2 (r.now.m.map encL), .acc 8 2 (r.now.o.map encL), .acc 9 2 (r.now.h.map encL), iI r.p, iI n]),
  (4, .box 57 [.bptr 3 0]), (5, .row 59 5), (6, .row 38 2), (7, .row 38 2), (8, .row 38 2), (9, .row 38 2)]
attribute [push_cast] prS
theorem ta_ok (κ : Kx) (b : Bool) : TVR κ (.tup [.iv (.agg []), iB b]) (.tuple #[.agg #[], .bool b]) :=
  .tup _ [.agg #[], .bool b] rfl (fun j c u hc hu => by
    match j with
    | 0 => simp at hc hu; subst hc; subst hu; exact .iv _ _ (.agg [] [] rfl (by simp) (by simp))
    | 1 => simp at hc hu; subst hc; subst hu; exact .iv _ _ (.lit _)
    | j + 2 => simp at hc)
theorem ta_fault (w : World) : (Instr.typeAssert faultV 20 63 true).run Try.prog w = .ok (.tuple #[.agg #[], .bool true]) w := by
  simp [Instr.typeAssert, run_underlying Try.underlying63, faultV]
theorem ta_nil (w : World) : (Instr.typeAssert .nilIface 20 63 true).run Try.prog w = .ok (.tuple #[.agg #[], .bool false]) w := by
  simp [Instr.typeAssert, run_underlying Try.underlying63]
def tlC : Option Code → Code
  | some (.seq _ c) => c
  | _ => .skip
theorem clo_p (o : TV) (r : Rd) (n : Int) (Q : Exit → St → Prop) (hQ : Q .normal ⟨[], [(1, .box 3 [iI n]), (2, .box 24 [iI 3]), (0, .box 23 [.nilsl])], 10⟩) :
    PWp Try.prog Try.f24.ntmps 10 (tlC Try.f24.body) Q ⟨(4, .iv (.lit faultV)) :: (7, .iv (.lit faultV)) :: enumA 0 [.bptr 4 0, .bptr 0 0, .bptr 1 0, .bptr 2 0], prS o r n, 10⟩ := by
  simp only [enumA]
  refine PWp.post ?_
  refine PWp.seq ?_
  refine PWp.regionY 1 TT (by rfl) rfl (by intro c hc; cases hc) (by intro i hi; cases hi; decide) (by rfl) (by rfl) (fun K hK => ?_)
  simp only [push_cast, seval, Nat.reduceEqDiff, Nat.reduceLeDiff, reduceCtorEq, List.take_succ_cons, List.take_zero]
  (repeat refine sk ?_)
  refine ⟨.tup [.iv (.agg []), iB true], fun κ N a hr => ⟨.tuple #[.agg #[], .bool true], ?_, ta_ok κ true⟩, ?_⟩
  · have e : a.eval (.tmp 9) = faultV := ivlit (hr.env 9)
    simp only [execOp, e]
    simp [ta_fault]
  · simp only [push_cast, seval, Nat.reduceEqDiff, Nat.reduceLeDiff, reduceCtorEq, List.drop_succ_cons, List.drop_zero]
    ((repeat refine sk ?_); refine hK _ ?_; clear hK K)
    ((repeat refine PWp.seq ?_); refine PWp.block ?_)
    ((repeat refine PWp.seq ?_); refine PWp.region TT (by rfl) (fun K hK => ?_); simp only [push_cast, seval, Nat.reduceEqDiff, Nat.reduceLeDiff, reduceCtorEq]; (repeat refine sk ?_); refine hK _ ?_; clear hK K)
    ((repeat refine PWp.seq ?_); refine PWp.cond (by simp only [push_cast, seval, Nat.reduceEqDiff, Nat.reduceLeDiff, reduceCtorEq]; rfl) (fun hc => ?_) (fun hc => ?_))
    · ((repeat refine PWp.seq ?_); refine PWp.region TT (by rfl) (fun K hK => ?_); simp only [push_cast, seval, Nat.reduceEqDiff, Nat.reduceLeDiff, reduceCtorEq]; (repeat refine sk ?_); refine hK _ ?_; clear hK K)
      refine ⟨_, ?_, hQ⟩
      exact Gh.le (by simp [push_cast, -List.getD_eq_getElem?_getD]) (by simp)
    · cases hc
theorem clo_n (X : List Rg) (r : Rd) (n : Int) (Q : Exit → St → Prop) (hQ : Q .normal ⟨[], [(0, .box 23 [.acc 5 5 (X.map encR)]), (1, .box 3 [iI 0]), (2, .box 24 [iI 0]), (5, .row 59 5)], 10⟩) :
    PWp Try.prog Try.f24.ntmps 10 (tlC Try.f24.body) Q ⟨(4, .iv (.lit .nilIface)) :: (7, .iv (.lit .nilIface)) :: enumA 0 [.bptr 4 0, .bptr 0 0, .bptr 1 0, .bptr 2 0], prS (.acc 5 5 (X.map encR)) r n, 10⟩ := by
  simp only [enumA]
  refine PWp.post ?_
  refine PWp.seq ?_
  refine PWp.regionY 1 TT (by rfl) rfl (by intro c hc; cases hc) (by intro i hi; cases hi; decide) (by rfl) (by rfl) (fun K hK => ?_)
  simp only [push_cast, seval, Nat.reduceEqDiff, Nat.reduceLeDiff, reduceCtorEq, List.take_succ_cons, List.take_zero]
  (repeat refine sk ?_)
  refine ⟨.tup [.iv (.agg []), iB false], fun κ N a hr => ⟨.tuple #[.agg #[], .bool false], ?_, ta_ok κ false⟩, ?_⟩
  · have e : a.eval (.tmp 9) = .nilIface := ivlit (hr.env 9)
    simp only [execOp, e]
    simp [ta_nil]
  · simp only [push_cast, seval, Nat.reduceEqDiff, Nat.reduceLeDiff, reduceCtorEq, List.drop_succ_cons, List.drop_zero]
    ((repeat refine sk ?_); refine hK _ ?_; clear hK K)
    ((repeat refine PWp.seq ?_); refine PWp.block ?_)
    ((repeat refine PWp.seq ?_); refine PWp.region TT (by rfl) (fun K hK => ?_); simp only [push_cast, seval, Nat.reduceEqDiff, Nat.reduceLeDiff, reduceCtorEq]; (repeat refine sk ?_); refine hK _ ?_; clear hK K)
    ((repeat refine PWp.seq ?_); refine PWp.cond (by simp only [push_cast, seval, Nat.reduceEqDiff, Nat.reduceLeDiff, reduceCtorEq]; rfl) (fun hc => ?_) (fun hc => ?_))
    · cases hc
    · refine PWp.seq ?_
      refine PWp.regionY 1 TT (by rfl) rfl (by intro c hc; cases hc) (by intro i hi; cases hi; decide) (by rfl) (by rfl) (fun K hK => ?_)
      simp only [push_cast, seval, Nat.reduceEqDiff, Nat.reduceLeDiff, reduceCtorEq, List.take_succ_cons, List.take_zero]
      (repeat refine sk ?_)
      refine ⟨iB false, fun κ N a hr => ⟨.bool false, ?_, .iv _ _ (.lit _)⟩, ?_⟩
      · have e : a.eval (.tmp 20) = .nilIface := ivlit (hr.env 20)
        simp only [execOp, e]
        simp [go_sem]
      · simp only [push_cast, seval, Nat.reduceEqDiff, Nat.reduceLeDiff, reduceCtorEq, List.drop_succ_cons, List.drop_zero]
        ((repeat refine sk ?_); refine hK _ ?_; clear hK K)
        ((repeat refine PWp.seq ?_); refine PWp.cond (by simp only [push_cast, seval, Nat.reduceEqDiff, Nat.reduceLeDiff, reduceCtorEq]; rfl) (fun hc => ?_) (fun hc => ?_))
        · cases hc
        · refine PWp.skip ?_
          refine ⟨_, ?_, hQ⟩
          exact Gh.le (by simp [push_cast, -List.getD_eq_getElem?_getD]) (by simp)

theorem Parse_c (l : List Ln) (hl : l.length ≤ 900) : PC Try.prog 7 [iL l] [] 0 0 (fun t obs => t = .tup [iR (parR l).1, iI (parR l).2.1, iI (parR l).2.2] ∧ obs = []) := by
  refine PC.bodyD TT (g := 24) [(2, 23), (3, 3), (4, 24)] Try.func7 rfl (by rfl) (Nat.le_of_ble_eq_true (by rfl)) rfl rfl rfl (by decide) rfl rfl rfl (by rfl) (by decide)
    Try.func24 rfl (by rfl) (by rfl) (by decide) rfl rfl rfl rfl rfl rfl (by decide) (by decide) ?_
  simp only [enumA]
  ((repeat refine PWp.seq ?_); refine PWp.region TT (by rfl) (fun K hK => ?_); simp only [push_cast, seval, Nat.reduceEqDiff, Nat.reduceLeDiff, reduceCtorEq]; (repeat refine sk ?_); refine hK _ ?_; clear hK K)
  refine ⟨rfl, ?_⟩
  ((repeat refine PWp.seq ?_); refine PWp.region TT (by rfl) (fun K hK => ?_); simp only [push_cast, seval, Nat.reduceEqDiff, Nat.reduceLeDiff, reduceCtorEq]; (repeat refine sk ?_); refine hK _ ?_; clear hK K)
  refine ⟨rfl, by simp [push_cast], by simp [push_cast], ?_⟩
  show PWp _ _ 5 _ _ _
  refine PWp.post ?_
  have hpar : parR l = parF rd0 0 (l.drop 0) := rfl
  refine PWp.gh (st' := ⟨[(0, iL l), (2, .bptr 0 0), (3, .bptr 1 0), (4, .bptr 2 0), (5, .bptr 4 0)], prS .nilsl rd0 0, 10⟩) ?_ ?_
  · refine Gh.trans (b := ⟨[(0, iL l), (2, .bptr 0 0), (3, .bptr 1 0), (4, .bptr 2 0), (5, .bptr 4 0)], [(0, .box 23 [.nilsl]), (1, .box 3 [iI 0]), (2, .box 24 [iI 0]), (3, .box 61 [.nilsl, iB false, .nilsl, .nilsl, .nilsl, .nilsl, iI 0, iI 0]), (4, .box 57 [.bptr 3 0])], 5⟩) (Gh.le (by simp [push_cast, -List.getD_eq_getElem?_getD]) (by simp)) ?_
    refine (Gh.rowc 3 0 59 5 rfl rfl).trans ?_
    refine (Gh.rowc 3 2 38 2 rfl rfl).trans ?_
    refine (Gh.rowc 3 3 38 2 rfl rfl).trans ?_
    refine (Gh.rowc 3 4 38 2 rfl rfl).trans ?_
    refine (Gh.rowc 3 5 38 2 rfl rfl).trans ?_
    exact Gh.le (by simp [push_cast, -List.getD_eq_getElem?_getD, rd0, noRg]) (by simp)
  refine PWp.seq ?_
  ((repeat refine PWp.seq ?_); refine PWp.region TT (by rfl) (fun K hK => ?_); simp only [push_cast, seval, Nat.reduceEqDiff, Nat.reduceLeDiff, reduceCtorEq]; (repeat refine sk ?_); refine hK _ ?_; clear hK K)
  ((repeat refine PWp.seq ?_); refine PWp.block ?_)
  refine PWp.loop (fun d st => ∃ (k : Nat) (r : Rd) (n : Int), d = l.length - k ∧ k ≤ l.length ∧ rdOK r k ∧ parR l = parF r k (l.drop k) ∧
    st = ⟨[(0, iL l), (2, .bptr 0 0), (3, .bptr 1 0), (4, .bptr 2 0), (5, .bptr 4 0), (11, iL l), (12, iI l.length), (13, iI k)], prS .nilsl r n, 10⟩) _ _ ⟨0, rd0, 0, rfl, Nat.zero_le _, ⟨by decide, by simp [rd0], by simp [rd0, noRg], by simp [rd0, noRg], by simp [rd0, noRg], by simp [rd0, noRg]⟩, hpar, rfl⟩ (Gh.le (by simp [push_cast, -List.getD_eq_getElem?_getD]) (by simp)) ?_
  rintro d st ⟨k, r, n, rfl, hk, hok, hpf, rfl⟩
  obtain ⟨q1, q2, q3, q4, q5, q6⟩ := id hok
  ((repeat refine PWp.seq ?_); refine PWp.region TT (by rfl) (fun K hK => ?_); simp only [push_cast, seval, Nat.reduceEqDiff, Nat.reduceLeDiff, reduceCtorEq]; (repeat refine sk ?_); refine hK _ ?_; clear hK K)
  ((repeat refine PWp.seq ?_); refine PWp.cond (by simp only [push_cast, seval, Nat.reduceEqDiff, Nat.reduceLeDiff, reduceCtorEq]; rfl) (fun hc => ?_) (fun hc => ?_))
  · have hlt : k < l.length := by have := of_decide_eq_true hc; omega
    clear hc
    have hg : (l.map encL).getD k .any = encL (l.getD k default) := getD_map hlt
    have hd := drop_getD hlt
    generalize l.getD k default = x at *
    rw [hd] at hpf
    simp only [parF] at hpf
    ((repeat refine PWp.seq ?_); refine PWp.skip ?_)
    ((repeat refine PWp.seq ?_); refine PWp.block ?_)
    ((repeat refine PWp.seq ?_); refine PWp.region TT (by rfl) (fun K hK => ?_); simp only [push_cast, seval, Nat.reduceEqDiff, Nat.reduceLeDiff, reduceCtorEq, hg]; (repeat refine sk ?_); refine hK _ ?_; clear hK K)
    ((repeat refine PWp.seq ?_); refine PWp.region TT (by rfl) (fun K hK => ?_); simp only [push_cast, seval, Nat.reduceEqDiff, Nat.reduceLeDiff, reduceCtorEq, wrap64_id (n := (k : Int) + 1) (by omega) (by omega)]; (repeat refine sk ?_); refine hK _ ?_; clear hK K)
    cases ht : takeR r x with
    | some r' =>
      rw [ht] at hpf
      ((repeat refine PWp.seq ?_); refine PWp.region TT (by rfl) (fun K hK => ?_); simp only [push_cast, seval, Nat.reduceEqDiff, Nat.reduceLeDiff, reduceCtorEq])
      ((repeat refine sk ?_); refine PCall.use (take_c r ((k : Int) + 1) x ht (by omega) q1 (by omega) (by omega) (by omega) (by omega)) [3, 5, 6, 7, 8, 9] rfl (by simp [push_cast]) (by simp) (by simp [push_cast]) (by simp [push_cast]) (by simp [push_cast]) (by simp [push_cast]) ?_)
      rintro _ _ ⟨rfl, rfl⟩
      (simp only [push_cast, seval, Nat.reduceEqDiff, Nat.reduceLeDiff, reduceCtorEq]; (repeat refine sk ?_); refine hK _ ?_; clear hK K)
      ((repeat refine PWp.seq ?_); refine PWp.region TT (by rfl) (fun K hK => ?_); simp only [push_cast, seval, Nat.reduceEqDiff, Nat.reduceLeDiff, reduceCtorEq, wrap64_id (n := (k : Int) + 1) (by omega) (by omega)]; (repeat refine sk ?_); refine hK _ ?_; clear hK K)
      refine ⟨_, _, ?_, ⟨k + 1, r', (k : Int) + 1, rfl, by omega, rdOK_take hok ht, hpf, rfl⟩, Gh.le (by simp [push_cast, -List.getD_eq_getElem?_getD]) (by simp)⟩
      omega
    | none =>
      rw [ht] at hpf
      ((repeat refine PWp.seq ?_); refine PWp.regionP 2 TT (by rfl) rfl rfl (by rfl) (fun K hK => ?_); simp only [push_cast, seval, Nat.reduceEqDiff, Nat.reduceLeDiff, reduceCtorEq, List.take_succ_cons, List.take_zero]; (repeat refine sk ?_); refine hK _ ⟨25, [], rfl, (by simp [push_cast]), ?_⟩; simp only [push_cast, seval, Nat.reduceEqDiff, Nat.reduceLeDiff, reduceCtorEq, List.append_nil])
      (refine PCall.use (take_p r ((k : Int) + 1) x ht) [3, 5, 6, 7, 8, 9] rfl (by simp [push_cast]) (by simp) (by simp [push_cast]) (by simp [push_cast]) (by simp [push_cast]) (by simp [push_cast]) ?_)
      rintro _ _ ⟨rfl, rfl⟩
      (refine ⟨_, rfl, ?_⟩)
      refine ⟨⟨[(2, .bptr 0 0), (3, .bptr 1 0), (4, .bptr 2 0)], prS .nilsl r ((k : Int) + 1), 10⟩, Gh.le (by simp [push_cast, -List.getD_eq_getElem?_getD]) (by simp), faultV, .inr rfl, ?_⟩
      refine clo_p _ _ _ _ ?_
      refine ⟨.inl rfl, [iR (parR l).1, iI (parR l).2.1, iI (parR l).2.2], [], ?_, ?_, ?_, ?_, rfl, rfl⟩
      · (simp [push_cast, -List.getD_eq_getElem?_getD, hpf])
      · (simp [push_cast, -List.getD_eq_getElem?_getD])
      · (simp [push_cast, -List.getD_eq_getElem?_getD])
      · (simp [push_cast, -List.getD_eq_getElem?_getD])
  · have hk' : k = l.length := by have := of_decide_eq_false hc; omega
    subst hk'
    rw [List.drop_length] at hpf
    simp only [parF] at hpf
    (repeat refine PWp.seq ?_); refine PWp.exit (iteT rfl ?_)
    ((repeat refine PWp.seq ?_); refine PWp.region TT (by rfl) (fun K hK => ?_); simp only [push_cast, seval, Nat.reduceEqDiff, Nat.reduceLeDiff, reduceCtorEq]; (repeat refine sk ?_); refine hK _ ?_; clear hK K)
    by_cases hp0 : r.p = 0
    · rw [if_pos hp0] at hpf
      have hb : ((r.p : Int) == 0) = true := by rw [hp0]; rfl
      ((repeat refine PWp.seq ?_); refine PWp.region TT (by rfl) (fun K hK => ?_); simp only [push_cast, seval, Nat.reduceEqDiff, Nat.reduceLeDiff, reduceCtorEq, hb])
      ((repeat refine sk ?_); refine PCall.use (must_t) [] rfl (by simp [push_cast, hb]) (by simp) (by simp [push_cast, hb]) (by simp [push_cast, hb]) (by simp [push_cast, hb]) (by simp [push_cast, hb]) ?_)
      rintro _ _ ⟨rfl, rfl⟩
      (simp only [push_cast, seval, Nat.reduceEqDiff, Nat.reduceLeDiff, reduceCtorEq]; (repeat refine sk ?_); refine hK _ ?_; clear hK K)
      ((repeat refine PWp.seq ?_); refine PWp.region TT (by rfl) (fun K hK => ?_); simp only [push_cast, seval, Nat.reduceEqDiff, Nat.reduceLeDiff, reduceCtorEq])
      ((repeat refine sk ?_); refine PCall.use (flush_c r 0 (by omega)) [3, 5, 6, 7, 8, 9] rfl (by simp [push_cast]) (by simp) (by simp [push_cast]) (by simp [push_cast]) (by simp [push_cast]) (by simp [push_cast]) ?_)
      rintro _ _ ⟨rfl, rfl⟩
      (simp only [push_cast, seval, Nat.reduceEqDiff, Nat.reduceLeDiff, reduceCtorEq]; (repeat refine sk ?_); refine hK _ ?_; clear hK K)
      ((repeat refine PWp.seq ?_); refine PWp.region TT (by rfl) (fun K hK => ?_); simp only [push_cast, seval, Nat.reduceEqDiff, Nat.reduceLeDiff, reduceCtorEq]; (repeat refine sk ?_); refine hK _ ?_; clear hK K)
      ((repeat refine PWp.seq ?_); refine PWp.ret ?_)
      refine ⟨⟨[(2, .bptr 0 0), (3, .bptr 1 0), (4, .bptr 2 0)], prS (.acc 5 5 ((flushR r).out.map encR)) (flushR r) 0, 10⟩, Gh.le (by simp [push_cast, -List.getD_eq_getElem?_getD]) (by simp), .nilIface, .inl ⟨.inr rfl, rfl⟩, ?_⟩
      refine clo_n _ _ _ _ ?_
      refine ⟨.inl rfl, by omega, [iR (parR l).1, iI (parR l).2.1, iI (parR l).2.2], [], ?_, ?_, ?_, ?_, rfl, rfl⟩
      · (simp [push_cast, -List.getD_eq_getElem?_getD, hpf])
      · (simp [push_cast, -List.getD_eq_getElem?_getD])
      · (simp [push_cast, -List.getD_eq_getElem?_getD])
      · (simp [push_cast, -List.getD_eq_getElem?_getD])
    · rw [if_neg hp0] at hpf
      have hb : ((r.p : Int) == 0) = false := beq_eq_false_iff_ne.2 (by omega)
      ((repeat refine PWp.seq ?_); refine PWp.regionP 5 TT (by rfl) rfl rfl (by rfl) (fun K hK => ?_); simp only [push_cast, seval, Nat.reduceEqDiff, Nat.reduceLeDiff, reduceCtorEq, List.take_succ_cons, List.take_zero, hb]; (repeat refine sk ?_); refine hK _ ⟨26, [], rfl, (by simp [push_cast]), ?_⟩; simp only [push_cast, seval, Nat.reduceEqDiff, Nat.reduceLeDiff, reduceCtorEq, List.append_nil])
      (refine PCall.use (must_f) [] rfl (by simp [push_cast, hb]) (by simp) (by simp [push_cast, hb]) (by simp [push_cast, hb]) (by simp [push_cast, hb]) (by simp [push_cast, hb]) ?_)
      rintro _ _ ⟨rfl, rfl⟩
      (refine ⟨_, rfl, ?_⟩)
      refine ⟨⟨[(2, .bptr 0 0), (3, .bptr 1 0), (4, .bptr 2 0)], prS .nilsl r 0, 10⟩, Gh.le (by simp [push_cast, -List.getD_eq_getElem?_getD]) (by simp), faultV, .inr rfl, ?_⟩
      refine clo_p _ _ _ _ ?_
      refine ⟨.inl rfl, [iR (parR l).1, iI (parR l).2.1, iI (parR l).2.2], [], ?_, ?_, ?_, ?_, rfl, rfl⟩
      · (simp [push_cast, -List.getD_eq_getElem?_getD, hpf])
      · (simp [push_cast, -List.getD_eq_getElem?_getD])
      · (simp [push_cast, -List.getD_eq_getElem?_getD])
      · (simp [push_cast, -List.getD_eq_getElem?_getD])
