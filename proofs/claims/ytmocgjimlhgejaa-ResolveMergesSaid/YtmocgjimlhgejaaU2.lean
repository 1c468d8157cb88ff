/- A reading: what is laid down, what is open; a line's mark; panics. -/
import Derived.Test.YtmocgjimlhgejaaU1
import Derived.Laws.Tables
import Derived.WalkSmall
import Derived.Tactics
namespace Go.Proofs.Ytmocgjimlhgejaa
open Go.PL
set_option maxRecDepth 100000
set_option linter.unusedSimpArgs false
set_option linter.unusedVariables false
/-- What a reading stops with. -/
def faultV : Value := .iface 63 (.agg #[])
/-- A reading: what is laid down, what is open, the part, the line. -/
structure Rd where
  out : List Rg
  now : Rg
  p : Nat
  deriving Inhabited
def rdC (r : Rd) (n : Int) : List TV := [.acc 1 5 (r.out.map encR), iB r.now.c, .acc 2 2 (r.now.l.map encL), .acc 3 2 (r.now.m.map encL), .acc 4 2 (r.now.o.map encL), .acc 5 2 (r.now.h.map encL), iI r.p, iI n]
def rdO (r : Rd) (n : Int) : List (Nat × Ob) := [(0, .box 61 (rdC r n)), (1, .row 59 5), (2, .row 38 2), (3, .row 38 2), (4, .row 38 2), (5, .row 38 2)]
def noRg : Rg := ⟨false, [], [], [], []⟩
def flushR (r : Rd) : Rd := ⟨if r.now.c = true ∨ 0 < r.now.l.length then r.out ++ [r.now] else r.out, noRg, r.p⟩

theorem must_t : PC Try.prog 26 [iB true] [] 0 0 (fun t obs => t = .tup [] ∧ obs = []) := by
  refine PC.body [] Try.func26 rfl (by rfl) (Nat.le_of_ble_eq_true (by rfl)) rfl ?_; simp only [enumA]
  ((repeat refine PWp.seq ?_); refine PWp.region TT (by rfl) (fun K hK => ?_); simp only [push_cast, seval, Nat.reduceEqDiff, Nat.reduceLeDiff, reduceCtorEq]; (repeat refine sk ?_); refine hK _ ?_; clear hK K)
  ((repeat refine PWp.seq ?_); refine PWp.cond (by simp only [push_cast, seval, Nat.reduceEqDiff, Nat.reduceLeDiff, reduceCtorEq]; rfl) (fun hc => ?_) (fun hc => ?_))
  · cases hc
  · refine PWp.skip ?_
    refine ⟨.inl rfl, by omega, .tup [], [], ?_, rfl, rfl⟩
    (simp [push_cast, -List.getD_eq_getElem?_getD])
theorem must_f : PCE EP Try.prog 26 [iB false] [] 0 0 (fun t obs => t = .iv (.lit faultV) ∧ obs = []) := by
  refine ⟨⟨_, _, Try.func26, rfl, rfl⟩, fun κ vs hO hn hl hargs => ?_⟩
  obtain ⟨v, rfl⟩ : ∃ v, vs = [v] := by
    match vs, hl with
    | [v], _ => exact ⟨v, rfl⟩
  have hv := ivlit (hargs 0 (iB false) v rfl rfl)
  subst hv
  have key : Calls Try.prog 26 #[.bool false] κ.w (fun e w' => e = EP faultV ∧ w' = κ.w) := by
    have hnot : ∀ (x : Bool) (w : World), (Op.unary .not (.bool x)).run Try.prog w = .ok (.bool (!x)) w := fun _ _ => rfl
    have hb : ∀ w : World, (Instr.build 63 #[]).run Try.prog w = .ok (.agg #[]) w := fun w => run_build w _ _ _ (by kernel_rfl)
    have hi : ∀ (v : Value) (w : World), (Instr.makeInterface 63 v).run Try.prog w = .ok (.iface 63 v) w := fun v w => by simp [Instr.makeInterface, run_underlying Try.underlying63]
    have hp : ∀ (t : TypeId) (v : Value) (w : World), (Instr.panic (.iface t v)).run Try.prog w = .halt (.panic (.iface t v)) w := fun _ _ _ => rfl
    go_enter Try.func26, Try.ntmps26
    go_wp2
    exact ⟨rfl, rfl, rfl⟩
  refine Calls.mono key ?_
  rintro e w' ⟨rfl, rfl⟩
  refine ⟨κ, faultV, .iv (.lit faultV), [], rfl, rfl, hO, by simp [look?], hn, Ext.refl κ, Keep.refl 0 κ (Nat.zero_le _), rfl, .iv _ _ (.lit _), rfl, rfl⟩

theorem PJoin {r : Option Nat} {P : Program} {N m : Nat} {x y : Code} {Q : Exit → St → Prop} {st : St} (S : St) (h : PWpF r P N m x (fun e st' => e = .normal ∧ Gh m st' S) st) (k : PWpF r P N m y Q S) : PWpF r P N m (.seq x y) Q st :=
  PWp.seq (PWp.mono h (fun e st' hh => by
    obtain ⟨rfl, hg⟩ := hh
    exact PWp.gh hg k))
attribute [push_cast] rdC rdO
theorem flush_c (r : Rd) (n : Int) (ho : r.out.length ≤ 1000) : PC Try.prog 27 [.bptr 0 0] (rdO r n) 6 6 (fun t obs => t = .tup [] ∧ obs = rdO (flushR r) n) := by
  refine PC.body [] Try.func27 rfl (by rfl) (Nat.le_of_ble_eq_true (by rfl)) rfl ?_; simp only [enumA]
  refine PWp.post ?_
  refine PJoin ⟨[(0, .bptr 0 0)], rdO { r with out := (flushR r).out } n, 6⟩ ?_ ?_
  · ((repeat refine PWp.seq ?_); refine PWp.region TT (by rfl) (fun K hK => ?_); simp only [push_cast, seval, Nat.reduceEqDiff, Nat.reduceLeDiff, reduceCtorEq]; (repeat refine sk ?_); refine hK _ ?_; clear hK K)
    ((repeat refine PWp.seq ?_); refine PWp.cond (by simp only [push_cast, seval, Nat.reduceEqDiff, Nat.reduceLeDiff, reduceCtorEq]; rfl) (fun hc => ?_) (fun hc => ?_))
    · have hcc : r.now.c = true ∨ 0 < r.now.l.length := by
        rcases Bool.or_eq_true_iff.1 hc with h | h
        · exact .inl h
        · exact .inr (by have := of_decide_eq_true h; omega)
      have hf : (flushR r).out = r.out ++ [r.now] := if_pos hcc
      ((repeat refine PWp.seq ?_); refine PWp.drawT TT (by kernel_rfl) [] (.q 0 (.q 1 (.q 2 (.q 3 (.q 5 (.q 6 (.q 7 (.alt 4 (.x 8 (.x 9 (.x 10 (.q 11 (.q 12 (.x 13 .nil)))))) (.x 8 (.alt 4 (.x 9 (.x 10 (.q 11 (.q 12 (.x 13 .nil))))) (.x 9 (.x 4 (.x 10 (.q 11 (.q 12 (.x 13 .nil)))))))))))))))) (by rfl) (by kernel_rfl) (by rfl) (by simp) (fun K hK => ?_); simp only [push_cast, seval, Nat.reduceEqDiff, Nat.reduceLeDiff, reduceCtorEq])
      repeat' (first | (refine hK _ ?_; exact ⟨rfl, Gh.le (by simp [push_cast, -List.getD_eq_getElem?_getD, hf]) (by simp)⟩) | refine sk ?_ | refine ⟨?_, ?_⟩)
    · have hcc : ¬ (r.now.c = true ∨ 0 < r.now.l.length) := by
        simp only [Bool.or_eq_false_iff, decide_eq_false_iff_not] at hc
        rintro (h | h)
        · rw [h] at hc; cases hc.1
        · omega
      have hf : (flushR r).out = r.out := if_neg hcc
      refine PWp.skip ?_
      exact ⟨rfl, Gh.le (by simp [push_cast, -List.getD_eq_getElem?_getD, hf]) (by simp)⟩
  · ((repeat refine PWp.seq ?_); refine PWp.region TT (by rfl) (fun K hK => ?_); simp only [push_cast, seval, Nat.reduceEqDiff, Nat.reduceLeDiff, reduceCtorEq]; (repeat refine sk ?_); refine hK _ ?_; clear hK K)
    refine ⟨⟨[], rdO (flushR r) n, 6⟩, ?_, .inl rfl, by omega, .tup [], _, ?_, rfl, rfl⟩
    · refine Gh.trans (b := ⟨[], [(0, .box 61 [.acc 1 5 ((flushR r).out.map encR), iB false, .nilsl, .nilsl, .nilsl, .nilsl, iI r.p, iI n]), (1, .row 59 5), (2, .row 38 2), (3, .row 38 2), (4, .row 38 2), (5, .row 38 2)], 6⟩) (Gh.le (by simp [push_cast, -List.getD_eq_getElem?_getD]) (by simp)) ?_
      refine (Gh.rerow 2 0 2 rfl rfl rfl).trans ?_
      refine (Gh.rerow 3 0 3 rfl rfl rfl).trans ?_
      refine (Gh.rerow 4 0 4 rfl rfl rfl).trans ?_
      refine (Gh.rerow 5 0 5 rfl rfl rfl).trans ?_
      exact Gh.le (by simp [push_cast, -List.getD_eq_getElem?_getD, noRg, flushR]) (by simp)
    · (simp [push_cast, -List.getD_eq_getElem?_getD])
