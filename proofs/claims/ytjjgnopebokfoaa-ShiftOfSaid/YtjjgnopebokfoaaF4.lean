/- Walks of chapter 38: substitutions, moved. -/
import Derived.Test.YtjjgnopebokfoaaF3
namespace Go.Proofs.Ytjjgnopebokfoaa
open Go.PL
set_option maxRecDepth 100000
set_option linter.unusedSimpArgs false
set_option linter.unusedVariables false
theorem lensL (l : List Ln) : lens? 2 (l.map encL) := lens_map (f := encL) (fun a => ⟨trivial, rfl⟩) l
theorem lensS (l : List Sb) : lens? 3 (l.map encS) := lens_map (f := encS) (fun a => ⟨trivial, rfl⟩) l
theorem Clone_lines (p : List Ln) (hp : p.length ≤ 1000000) : PC Try.prog 43 [iL p] [] 0 1 (fun t obs => t = .acc 0 2 (p.map encL) ∧ obs = [(0, .row 49 2)]) := by
  refine PC.body [2] Try.func43 rfl (by rfl) (Nat.le_of_ble_eq_true (by rfl)) rfl ?_; simp only [enumA]
  refine PWp.nilcase 0 (by rfl) (fun hx => ?_) ?_
  · ((repeat refine PWp.seq ?_); refine PWp.region TT (by rfl) (fun K hK => ?_); simp only [push_cast, seval, Nat.reduceEqDiff, Nat.reduceLeDiff, reduceCtorEq]; (repeat refine sk ?_); refine hK _ ?_; clear hK K)
    ((repeat refine PWp.seq ?_); refine PWp.region TT (by rfl) (fun K hK => ?_); simp only [push_cast, seval, Nat.reduceEqDiff, Nat.reduceLeDiff, reduceCtorEq]; (repeat refine sk ?_); refine hK _ ?_; clear hK K)
    ((repeat refine PWp.seq ?_); refine PWp.cond (by simp only [push_cast, seval, Nat.reduceEqDiff, Nat.reduceLeDiff, reduceCtorEq]; rfl) (fun hc => ?_) (fun hc => ?_))
    · ((repeat refine PWp.seq ?_); refine PWp.region TT (by rfl) (fun K hK => ?_); simp only [push_cast, seval, Nat.reduceEqDiff, Nat.reduceLeDiff, reduceCtorEq]; (repeat refine sk ?_); refine hK _ ?_; clear hK K)
      refine PWp.gh (Gh.row 2 49 2 (by rfl)) ?_
      ((repeat refine PWp.seq ?_); refine PWp.ret ?_)
      refine ⟨.inr rfl, by omega, _, _, ?_, rfl, rfl⟩
      simp [push_cast, hx]
    · simp at hc
  · ((repeat refine PWp.seq ?_); refine PWp.region TT (by rfl) (fun K hK => ?_); simp only [push_cast, seval, Nat.reduceEqDiff, Nat.reduceLeDiff, reduceCtorEq]; (repeat refine sk ?_); refine hK _ ?_; clear hK K)
    ((repeat refine PWp.seq ?_); refine PWp.region TT (by rfl) (fun K hK => ?_); simp only [push_cast, seval, Nat.reduceEqDiff, Nat.reduceLeDiff, reduceCtorEq]; (repeat refine sk ?_); refine hK _ ?_; clear hK K)
    ((repeat refine PWp.seq ?_); refine PWp.cond (by simp only [push_cast, seval, Nat.reduceEqDiff, Nat.reduceLeDiff, reduceCtorEq]; rfl) (fun hc => ?_) (fun hc => ?_))
    · simp at hc
    · ((repeat refine PWp.seq ?_); refine PWp.skip ?_)
      have hl := lensL p
      ((repeat refine PWp.seq ?_); refine PWp.region TT (by rfl) (fun K hK => ?_); simp only [push_cast, seval, Nat.reduceEqDiff, Nat.reduceLeDiff, reduceCtorEq, hl]; (repeat refine sk ?_); refine hK _ ?_; clear hK K)
      ((repeat refine PWp.seq ?_); refine PWp.ret ?_)
      refine ⟨.inr rfl, by omega, _, _, ?_, rfl, rfl⟩
      (simp [push_cast, -List.getD_eq_getElem?_getD])
/-- Substitutions, each moved. -/
def movN (by_ : Nat → Int) (l : List Sb) (k : Nat) : List Sb := (List.range k).map fun (i : Nat) => ⟨(l.getD i default).at_ + by_ i, (l.getD i default).out, (l.getD i default).in_⟩
theorem movN_succ (by_ : Nat → Int) (l : List Sb) (k : Nat) : movN by_ l (k + 1) = movN by_ l k ++ [⟨(l.getD k default).at_ + by_ k, (l.getD k default).out, (l.getD k default).in_⟩] := by simp [movN, List.range_succ]
theorem movN_length (by_ : Nat → Int) (l : List Sb) (k : Nat) : (movN by_ l k).length = k := by simp [movN]
theorem shift_moved (l : List Sb) (f ty : Nat) (X : Nat → IV) (by_ : Nat → Int) (hl : smP l) (hby : ∀ k, k < l.length → -1000000000 ≤ by_ k ∧ by_ k ≤ 1000000000)
    (hf : ∀ k, k < l.length → PC Try.prog f [.iv (encS (l.getD k default)), .bptr 0 0] [(0, .box ty [.iv (X k)])] 1 1 (fun t obs => t = iI (by_ k) ∧ obs = [(0, .box ty [.iv (X (k + 1))])])) :
    PC Try.prog 29 [iP l, .clo f [.bptr 0 0]] [(0, .box ty [.iv (X 0)])] 1 2 (fun t obs => t = .mrow 1 ∧ obs = [(0, .box ty [.iv (X l.length)]), (1, .mrow 47 3 ((movN by_ l l.length).map encS))]) := by
  have hlen := hl.1
  refine PC.body [4] Try.func29 rfl (by rfl) (Nat.le_of_ble_eq_true (by rfl)) rfl ?_; simp only [enumA]
  ((repeat refine PWp.seq ?_); refine PWp.region TT (by rfl) (fun K hK => ?_); simp only [push_cast, seval, Nat.reduceEqDiff, Nat.reduceLeDiff, reduceCtorEq]; (repeat refine sk ?_); refine hK _ ?_; clear hK K)
  ((repeat refine PWp.seq ?_); refine PWp.region TT (by rfl) (fun K hK => ?_); simp only [push_cast, seval, Nat.reduceEqDiff, Nat.reduceLeDiff, reduceCtorEq]; (repeat refine sk ?_); refine hK _ ?_; clear hK K)
  ((repeat refine PWp.seq ?_); refine PWp.region TT (by rfl) (fun K hK => ?_); simp only [push_cast, seval, Nat.reduceEqDiff, Nat.reduceLeDiff, reduceCtorEq]; (repeat refine sk ?_); refine hK _ ?_; clear hK K)
  refine PWp.gh (Gh.mrow 5 47 3 (by rfl)) ?_
  ((repeat refine PWp.seq ?_); refine PWp.block ?_)
  refine PWp.loop (fun c st => ∃ k : Nat, c = l.length - k ∧ k ≤ l.length ∧
    st = ⟨[(1, .clo f [.bptr 0 0]), (5, .mrow 1), (8, iP l), (9, iI l.length), (10, iI k)], [(0, .box ty [.iv (X k)]), (1, .mrow 47 3 ((movN by_ l k).map encS))], 2⟩) _ _ ⟨0, rfl, Nat.zero_le _, rfl⟩ (Gh.le (by simp [push_cast, -List.getD_eq_getElem?_getD, movN]) (by simp)) ?_
  rintro c st ⟨k, rfl, hk, rfl⟩
  ((repeat refine PWp.seq ?_); refine PWp.region TT (by rfl) (fun K hK => ?_); simp only [push_cast, seval, Nat.reduceEqDiff, Nat.reduceLeDiff, reduceCtorEq]; (repeat refine sk ?_); refine hK _ ?_; clear hK K)
  ((repeat refine PWp.seq ?_); refine PWp.cond (by simp only [push_cast, seval, Nat.reduceEqDiff, Nat.reduceLeDiff, reduceCtorEq]; rfl) (fun hc => ?_) (fun hc => ?_))
  · have hlt : k < l.length := by simpa using hc
    clear hc
    have hsk := hl.2 _ (getD_mem hlt)
    have hsm := hsk
    unfold smS at hsm
    have hb := hby k hlt
    have hml := movN_length by_ l k
    ((repeat refine PWp.seq ?_); refine PWp.skip ?_)
    ((repeat refine PWp.seq ?_); refine PWp.block ?_)
    ((repeat refine PWp.seq ?_); refine PWp.region TT (by rfl) (fun K hK => ?_); simp only [push_cast, seval, Nat.reduceEqDiff, Nat.reduceLeDiff, reduceCtorEq, getD_map hlt]; (repeat refine sk ?_); refine hK _ ?_; clear hK K)
    ((repeat refine PWp.seq ?_); refine PWp.drawT TT (by kernel_rfl) [2] (.q 0 (.q 1 (.q 2 (.q 3 (.q 4 (.q 7 (.q 8 (.q 10 (.q 11 (.x 5 (.q 6 (.x 9 (.x 12 (.q 13 (.x 14 (.x 15 (.q 16 .nil))))))))))))))))) (by rfl) (by kernel_rfl) (by rfl) (by simp) (fun K hK => ?_); simp only [push_cast, seval, Nat.reduceEqDiff, Nat.reduceLeDiff, reduceCtorEq])
    ((repeat refine sk ?_); refine PCall.use (hf k hlt) [0] rfl (by simp [push_cast]) (by simp) (by simp [push_cast]) (by simp [push_cast]) (by simp [push_cast]) (by simp [push_cast]) ?_)
    rintro _ _ ⟨rfl, rfl⟩
    (simp only [push_cast, seval, Nat.reduceEqDiff, Nat.reduceLeDiff, reduceCtorEq, wrap64_id (n := (l.getD k default).at_ + by_ k) (by omega) (by omega)])
    ((repeat refine sk ?_); refine PCall.use (Clone_lines (l.getD k default).out (by omega)) [] rfl (by simp [push_cast]) (by simp) (by simp [push_cast]) (by simp [push_cast]) (by simp [push_cast]) (by simp [push_cast]) ?_)
    rintro _ _ ⟨rfl, rfl⟩
    (simp only [push_cast, seval, Nat.reduceEqDiff, Nat.reduceLeDiff, reduceCtorEq])
    ((repeat refine sk ?_); refine PCall.use (Clone_lines (l.getD k default).in_ (by omega)) [] rfl (by simp [push_cast]) (by simp) (by simp [push_cast]) (by simp [push_cast]) (by simp [push_cast]) (by simp [push_cast]) ?_)
    rintro _ _ ⟨rfl, rfl⟩
    (simp only [push_cast, seval, Nat.reduceEqDiff, Nat.reduceLeDiff, reduceCtorEq]; (repeat refine sk ?_); refine hK _ ?_; clear hK K)
    ((repeat refine PWp.seq ?_); refine PWp.region TT (by rfl) (fun K hK => ?_); simp only [push_cast, seval, Nat.reduceEqDiff, Nat.reduceLeDiff, reduceCtorEq, wrap64_id (n := (k : Int) + 1) (by omega) (by omega)]; (repeat refine sk ?_); refine hK _ ?_; clear hK K)
    refine ⟨_, _, ?_, ⟨k + 1, rfl, by omega, rfl⟩, Gh.leR [0, 5] (by simp [push_cast, -List.getD_eq_getElem?_getD, movN_succ]; try decide)⟩
    omega
  · have hk' : k = l.length := by simp at hc; omega
    subst hk'
    (repeat refine PWp.seq ?_); refine PWp.exit (iteT rfl ?_)
    ((repeat refine PWp.seq ?_); refine PWp.region TT (by rfl) (fun K hK => ?_); simp only [push_cast, seval, Nat.reduceEqDiff, Nat.reduceLeDiff, reduceCtorEq]; (repeat refine sk ?_); refine hK _ ?_; clear hK K)
    ((repeat refine PWp.seq ?_); refine PWp.ret ?_)
    refine ⟨.inr rfl, by omega, _, _, ?_, rfl, rfl⟩
    (simp [push_cast, -List.getD_eq_getElem?_getD])
end Go.Proofs.Ytjjgnopebokfoaa
