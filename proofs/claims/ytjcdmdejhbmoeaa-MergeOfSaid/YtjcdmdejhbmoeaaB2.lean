/- Walks of chapter 14: a chunk's lines, and which text counts. -/
import Derived.Test.YtjcdmdejhbmoeaaB1
namespace Go.Proofs.Ytjcdmdejhbmoeaa
open Go.PL
set_option maxRecDepth 100000
set_option linter.unusedSimpArgs false
set_option linter.unusedVariables false
def encT (o a b : List Ln) : IV := .agg [.sl 2 (o.map encL), .sl 2 (a.map encL), .sl 2 (b.map encL)]
attribute [push_cast] encT
structure Pc where
  side : Int
  c : Ck
  deriving DecidableEq, Inhabited
def encPc (p : Pc) : IV := .agg [.lit (.int .i64 p.side), .lit (.bool p.c.s), .lit (.int .i64 p.c.o), .lit (.int .i64 p.c.on), .lit (.int .i64 p.c.a), .lit (.int .i64 p.c.an), .lit (.int .i64 p.c.b), .lit (.int .i64 p.c.bn)]
attribute [push_cast] encPc
/-- So many lines from a place on. -/
def segN (l : List Ln) (i n : Int) : List Ln := (l.take (i + n).toNat).drop i.toNat
theorem segN_map (l : List Ln) (i n : Int) : (segN l i n).map encL = ((l.map encL).take (i + n).toNat).drop i.toNat := by simp [segN, List.map_take, List.map_drop]
def inL (l : List Ln) (i n : Int) : Prop := 0 ≤ i ∧ 0 ≤ n ∧ i + n ≤ l.length ∧ l.length ≤ 1000000
def inT (o a b : List Ln) (c : Ck) : Prop := inL o c.o c.on ∧ inL a c.a c.an ∧ inL b c.b c.bn
theorem segN_length {l : List Ln} {i n : Int} (h : inL l i n) : ((segN l i n).length : Int) = n := by
  unfold inL at h
  unfold segN
  rw [List.length_drop, List.length_take]
  omega
theorem three_of (o a b : List Ln) (c : Ck) (h : inT o a b c) : PC Try.prog 41 [.iv (encT o a b), .iv (encC c)] [] 0 0 (fun t obs => t = .iv (encT (segN o c.o c.on) (segN a c.a c.an) (segN b c.b c.bn)) ∧ obs = []) := by
  obtain ⟨h1, h2, h3⟩ := h
  unfold inL at h1 h2 h3
  refine PC.bodyG (finC T 4 58) Try.func41 rfl (by rfl) (Nat.le_of_ble_eq_true (by rfl)) (finC_ok TT (by rfl)) ?_; simp only [enumA]
  ((repeat refine PWp.seq ?_); refine PWp.region TT (by rfl) (fun K hK => ?_); simp only [push_cast, beq_self_eq_true, Int.reduceBEq, Int.reduceToNat, Int.reduceAdd, Int.reduceSub, Nat.reduceBEq, Nat.reduceAdd, Nat.reduceMul, Nat.reduceLT, Nat.reduceSub, Nat.reduceEqDiff, Nat.reduceLeDiff, Bool.not_true, Bool.not_false, Bool.false_eq_true, false_implies, forall_const, Bool.true_beq, Bool.false_beq, beq_true, beq_false, implies_true, reduceCtorEq]; (repeat (refine ⟨by clear hK; first | omega | trivial | exact id | (intro h; rw [h]; rfl) | (intro h; exact ⟨h, h⟩) | (intros; decide) | (intro h; simp only [Bool.and_eq_true, Bool.not_eq_true', Bool.or_eq_false_iff, Bool.not_eq_false'] at h; simp [h]; done) | (intros; simp_all; done) | (intros; simp_all; omega), ?_⟩)); refine hK _ ?_; clear hK K)
  ((repeat refine PWp.seq ?_); refine PWp.drawT TT (by kernel_rfl) [0, 1] (.q 0 (.q 1 (.q 2 (.q 3 (.q 4 (.q 5 (.q 6 (.q 7 (.q 8 (.q 9 (.q 10 (.q 11 (.q 12 (.q 13 (.q 14 (.q 15 (.q 16 (.q 17 (.q 18 (.q 19 (.q 20 (.q 21 (.q 22 (.q 23 (.q 24 (.q 25 (.q 26 (.q 27 (.q 28 (.q 29 (.q 30 (.q 31 (.q 32 (.q 33 (.q 34 (.q 35 (.q 36 (.q 37 (.q 38 (.q 39 (.q 40 (.q 41 (.q 42 (.q 43 (.q 44 (.q 45 (.x 46 .nil))))))))))))))))))))))))))))))))))))))))))))))) (by rfl) (by kernel_rfl) (by rfl) (by simp) (fun K hK => ?_); simp only [push_cast, beq_self_eq_true, Int.reduceBEq, Int.reduceToNat, Int.reduceAdd, Int.reduceSub, Nat.reduceBEq, Nat.reduceAdd, Nat.reduceMul, Nat.reduceLT, Nat.reduceSub, Nat.reduceEqDiff, Nat.reduceLeDiff, Bool.not_true, Bool.not_false, Bool.false_eq_true, false_implies, forall_const, Bool.true_beq, Bool.false_beq, beq_true, beq_false, implies_true, reduceCtorEq, wrap64_id (n := c.o + c.on) (by omega) (by omega), wrap64_id (n := c.a + c.an) (by omega) (by omega), wrap64_id (n := c.b + c.bn) (by omega) (by omega)]; (repeat (refine ⟨by clear hK; first | omega | trivial | exact id | (intro h; rw [h]; rfl) | (intro h; exact ⟨h, h⟩) | (intros; decide) | (intro h; simp only [Bool.and_eq_true, Bool.not_eq_true', Bool.or_eq_false_iff, Bool.not_eq_false'] at h; simp [h]; done) | (intros; simp_all; done) | (intros; simp_all; omega), ?_⟩)); refine hK _ ?_; clear hK K)
  ((repeat refine PWp.seq ?_); refine PWp.ret ?_)
  refine ⟨.inr rfl, by omega, _, [], ?_, rfl, rfl⟩
  (simp [push_cast, -List.getD_eq_getElem?_getD, segN_map])
end Go.Proofs.Ytjcdmdejhbmoeaa
