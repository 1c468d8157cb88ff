/- Numbers' texts. -/
import Derived.Test.YtjlnialglahdoaaH7
namespace Go.Proofs.Ytjlnialglahdoaa
open Go.PL
set_option maxRecDepth 100000
set_option linter.unusedSimpArgs false
set_option linter.unusedVariables false
def dig (d : Nat) : UInt8 := UInt8.ofNat (48 + d)
def decL (n : Nat) : List UInt8 := if n < 10 then [dig n] else decL (n / 10) ++ [dig (n % 10)]
theorem decL_small {n : Nat} (h : n < 10) : decL n = [dig n] := by unfold decL; rw [if_pos h]
theorem decL_big {n : Nat} (h : ¬ n < 10) : decL n = decL (n / 10) ++ [dig (n % 10)] := by conv => lhs; unfold decL; rw [if_neg h]
theorem decL_len : ∀ (b n : Nat), n < 10 ^ (b + 1) → (decL n).length ≤ b + 1
  | 0, n, h => by rw [decL_small (by omega)]; simp
  | b + 1, n, h => by
    by_cases h1 : n < 10
    · rw [decL_small h1]; simp
    · rw [decL_big h1, List.length_append]
      have := decL_len b (n / 10) (by rw [Nat.pow_succ] at h; omega)
      simp; omega
theorem wrapU8' {n : Int} (h0 : 0 ≤ n) (h1 : n ≤ 255) : IntKind.u8.wrap n = n := wrap_id (by simpa [IntKind.min, IntKind.signed, IntKind.bits] using h0) (by simpa [IntKind.max, IntKind.signed, IntKind.bits] using h1)
theorem find_digits (N : Nat) (hN : N ≤ 9223372036854775807) : PC Try.prog 32 [iI N] [] 0 0 (fun t obs => t = iS (decL N) ∧ obs = []) := by
  refine PC.body [2] Try.func32 rfl (by rfl) (Nat.le_of_ble_eq_true (by rfl)) rfl ?_; simp only [enumA]
  ((repeat refine PWp.seq ?_); refine PWp.region TT (by rfl) (fun K hK => ?_); simp only [push_cast, seval, Nat.reduceEqDiff, Nat.reduceLeDiff, reduceCtorEq]; (repeat refine sk ?_); refine hK _ ?_; clear hK K)
  ((repeat refine PWp.seq ?_); refine PWp.region TT (by rfl) (fun K hK => ?_); simp only [push_cast, seval, Nat.reduceEqDiff, Nat.reduceLeDiff, reduceCtorEq]; (repeat refine sk ?_); refine hK _ ?_; clear hK K)
  ((repeat refine PWp.seq ?_); refine PWp.block ?_)
  refine PWp.loop (fun d st => ∃ (n : Nat) (out : List UInt8), d = n ∧ n ≤ 9223372036854775807 ∧ decL N = decL n ++ out ∧
    st = ⟨[(0, iI n), (3, iS out)], [], 0⟩) _ _ ⟨N, [], rfl, hN, by rw [List.append_nil], rfl⟩ (Gh.le (by simp [push_cast, -List.getD_eq_getElem?_getD]) (by simp)) ?_
  rintro n st ⟨_, out, rfl, hn, hd, rfl⟩
  have hl : (decL N).length ≤ 19 := decL_len 18 N (by omega)
  have hol : out.length ≤ 19 := by rw [hd, List.length_append] at hl; omega
  have e1 : (n : Int).tmod 10 = ((n % 10 : Nat) : Int) := by rw [Int.tmod_eq_emod_of_nonneg (by omega)]; rfl
  have e2 : (n : Int).tdiv 10 = ((n / 10 : Nat) : Int) := by rw [Int.tdiv_eq_ediv_of_nonneg (by omega)]; rfl
  have e3 : UInt8.ofNat (48 + ((n % 10 : Nat) : Int)).toNat = dig (n % 10) := by
    unfold dig
    congr 1
  have w1 := wrap64_id (n := 48 + ((n % 10 : Nat) : Int)) (by omega) (by omega)
  have w2 := wrapU8' (n := 48 + ((n % 10 : Nat) : Int)) (by omega) (by omega)
  have w3 := wrap64_id (n := ((n / 10 : Nat) : Int)) (by omega) (by omega)
  generalize hm : n % 10 = m at *
  generalize hq : n / 10 = q at *
  ((repeat refine PWp.seq ?_); refine PWp.block ?_)
  ((repeat refine PWp.seq ?_); refine PWp.region TT (by rfl) (fun K hK => ?_); simp only [push_cast, seval, Nat.reduceEqDiff, Nat.reduceLeDiff, reduceCtorEq, e1, w1, w2, e3]; (repeat refine sk ?_); refine hK _ ?_; clear hK K)
  ((repeat refine PWp.seq ?_); refine PWp.region TT (by rfl) (fun K hK => ?_); simp only [push_cast, seval, Nat.reduceEqDiff, Nat.reduceLeDiff, reduceCtorEq, e2, w3]; (repeat refine sk ?_); refine hK _ ?_; clear hK K)
  by_cases h0 : q = 0
  · have hb : ((q : Int) == 0) = true := beq_iff_eq.2 (by omega)
    have hmn : m = n := by omega
    rw [decL_small (by omega : n < 10)] at hd
    ((repeat refine PWp.seq ?_); refine PWp.region TT (by rfl) (fun K hK => ?_); simp only [push_cast, seval, Nat.reduceEqDiff, Nat.reduceLeDiff, reduceCtorEq, hb]; (repeat refine sk ?_); refine hK _ ?_; clear hK K)
    ((repeat refine PWp.seq ?_); refine PWp.cond (by simp only [push_cast, seval, Nat.reduceEqDiff, Nat.reduceLeDiff, reduceCtorEq]; rfl) (fun hc => ?_) (fun hc => ?_))
    · ((repeat refine PWp.seq ?_); refine PWp.region TT (by rfl) (fun K hK => ?_); simp only [push_cast, seval, Nat.reduceEqDiff, Nat.reduceLeDiff, reduceCtorEq]; (repeat refine sk ?_); refine hK _ ?_; clear hK K)
      ((repeat refine PWp.seq ?_); refine PWp.ret ?_)
      refine ⟨.inr rfl, by omega, _, [], ?_, rfl, rfl⟩
      rw [hd, hmn]
      (simp [push_cast, -List.getD_eq_getElem?_getD])
    · cases hc
  · have hb : ((q : Int) == 0) = false := beq_eq_false_iff_ne.2 (by omega)
    rw [decL_big (by omega : ¬ n < 10), hm, hq, List.append_assoc] at hd
    ((repeat refine PWp.seq ?_); refine PWp.region TT (by rfl) (fun K hK => ?_); simp only [push_cast, seval, Nat.reduceEqDiff, Nat.reduceLeDiff, reduceCtorEq, hb]; (repeat refine sk ?_); refine hK _ ?_; clear hK K)
    ((repeat refine PWp.seq ?_); refine PWp.cond (by simp only [push_cast, seval, Nat.reduceEqDiff, Nat.reduceLeDiff, reduceCtorEq]; rfl) (fun hc => ?_) (fun hc => ?_))
    · cases hc
    · ((repeat refine PWp.seq ?_); refine PWp.skip ?_)
      refine ⟨_, _, ?_, ⟨q, [dig m] ++ out, rfl, by omega, hd, rfl⟩, Gh.le (by simp [push_cast, -List.getD_eq_getElem?_getD]) (by simp)⟩
      omega
/-- The document's text of a number. -/
def decF (n : Nat) : List UInt8 := if n ≤ 2147483647 then decL n else [63]
theorem ref01_Decimal : ∀ (b n : Nat), n < b → n ≤ 2147483647 → PC Try.prog 34 [iI n] [] 0 0 (fun t obs => t = iS (decL n) ∧ obs = [])
  | 0, n, h, _ => absurd h (Nat.not_lt_zero _)
  | b + 1, n, h, hn => by
    refine PC.body [2] Try.func34 rfl (by rfl) (Nat.le_of_ble_eq_true (by rfl)) rfl ?_; simp only [enumA]
    ((repeat refine PWp.seq ?_); refine PWp.region TT (by rfl) (fun K hK => ?_); simp only [push_cast, seval, Nat.reduceEqDiff, Nat.reduceLeDiff, reduceCtorEq]; (repeat refine sk ?_); refine hK _ ?_; clear hK K)
    have d1 : decide ((n : Int) < 0) = false := decide_eq_false (by omega)
    have d2 : decide ((n : Int) > 2147483647) = false := decide_eq_false (by omega)
    ((repeat refine PWp.seq ?_); refine PWp.region TT (by rfl) (fun K hK => ?_); simp only [push_cast, seval, Nat.reduceEqDiff, Nat.reduceLeDiff, reduceCtorEq, d1, d2]; (repeat refine sk ?_); refine hK _ ?_; clear hK K)
    ((repeat refine PWp.seq ?_); refine PWp.cond (by simp only [push_cast, seval, Nat.reduceEqDiff, Nat.reduceLeDiff, reduceCtorEq]; rfl) (fun hc => ?_) (fun hc => ?_))
    · cases hc
    · ((repeat refine PWp.seq ?_); refine PWp.skip ?_)
      have e1 : (n : Int).tmod 10 = ((n % 10 : Nat) : Int) := by rw [Int.tmod_eq_emod_of_nonneg (by omega)]; rfl
      have e2 : (n : Int).tdiv 10 = ((n / 10 : Nat) : Int) := by rw [Int.tdiv_eq_ediv_of_nonneg (by omega)]; rfl
      by_cases h1 : n < 10
      · have d3 : decide ((n : Int) < 10) = true := decide_eq_true (by omega)
        have e3 : UInt8.ofNat (48 + (n : Int)).toNat = dig n := by
          unfold dig
          congr 1
        have w1 := wrap64_id (n := 48 + (n : Int)) (by omega) (by omega)
        have w2 := wrapU8' (n := 48 + (n : Int)) (by omega) (by omega)
        ((repeat refine PWp.seq ?_); refine PWp.region TT (by rfl) (fun K hK => ?_); simp only [push_cast, seval, Nat.reduceEqDiff, Nat.reduceLeDiff, reduceCtorEq, d3]; (repeat refine sk ?_); refine hK _ ?_; clear hK K)
        ((repeat refine PWp.seq ?_); refine PWp.cond (by simp only [push_cast, seval, Nat.reduceEqDiff, Nat.reduceLeDiff, reduceCtorEq]; rfl) (fun hc => ?_) (fun hc => ?_))
        · ((repeat refine PWp.seq ?_); refine PWp.region TT (by rfl) (fun K hK => ?_); simp only [push_cast, seval, Nat.reduceEqDiff, Nat.reduceLeDiff, reduceCtorEq, w1, w2, e3]; (repeat refine sk ?_); refine hK _ ?_; clear hK K)
          ((repeat refine PWp.seq ?_); refine PWp.ret ?_)
          refine ⟨.inr rfl, by omega, _, [], ?_, rfl, rfl⟩
          rw [decL_small h1]
          (simp [push_cast, -List.getD_eq_getElem?_getD])
        · cases hc
      · have d3 : decide ((n : Int) < 10) = false := decide_eq_false (by omega)
        have e3 : UInt8.ofNat (48 + ((n % 10 : Nat) : Int)).toNat = dig (n % 10) := by
          unfold dig
          congr 1
        have w1 := wrap64_id (n := 48 + ((n % 10 : Nat) : Int)) (by omega) (by omega)
        have w2 := wrapU8' (n := 48 + ((n % 10 : Nat) : Int)) (by omega) (by omega)
        have w3 := wrap64_id (n := ((n / 10 : Nat) : Int)) (by omega) (by omega)
        have ih := ref01_Decimal b (n / 10) (by omega) (by omega)
        have hl : (decL (n / 10)).length ≤ 19 := decL_len 18 (n / 10) (by omega)
        have hbig := decL_big h1
        ((repeat refine PWp.seq ?_); refine PWp.region TT (by rfl) (fun K hK => ?_); simp only [push_cast, seval, Nat.reduceEqDiff, Nat.reduceLeDiff, reduceCtorEq, d3]; (repeat refine sk ?_); refine hK _ ?_; clear hK K)
        ((repeat refine PWp.seq ?_); refine PWp.cond (by simp only [push_cast, seval, Nat.reduceEqDiff, Nat.reduceLeDiff, reduceCtorEq]; rfl) (fun hc => ?_) (fun hc => ?_))
        · cases hc
        · ((repeat refine PWp.seq ?_); refine PWp.skip ?_)
          generalize hm : n % 10 = m at *
          generalize hq : n / 10 = q at *
          ((repeat refine PWp.seq ?_); refine PWp.drawT TT (by kernel_rfl) [] (.q 0 (.q 1 (.q 3 (.q 4 (.q 5 (.q 6 (.alt 2 (.x 7 (.q 8 (.q 9 (.q 10 .nil)))) (.x 7 (.q 8 (.x 2 (.q 9 (.q 10 .nil)))))))))))) (by rfl) (by kernel_rfl) (by rfl) (by simp) (fun K hK => ?_); simp only [push_cast, seval, Nat.reduceEqDiff, Nat.reduceLeDiff, reduceCtorEq, e1, e2, w1, w2, w3, e3])
          (repeat refine sk ?_)
          refine ⟨?_, ?_⟩
          · ((repeat refine sk ?_); refine PCall.use (ih) [] rfl (by simp [push_cast]) (by simp) (by simp [push_cast]) (by simp [push_cast]) (by simp [push_cast]) (by simp [push_cast]) ?_)
            rintro _ _ ⟨rfl, rfl⟩
            (simp only [push_cast, seval, Nat.reduceEqDiff, Nat.reduceLeDiff, reduceCtorEq, e1, e2, w1, w2, w3, e3]; (repeat refine sk ?_); refine hK _ ?_; clear hK K)
            ((repeat refine PWp.seq ?_); refine PWp.ret ?_)
            refine ⟨.inr rfl, by omega, _, [], ?_, rfl, rfl⟩
            rw [hbig]
            (simp [push_cast, -List.getD_eq_getElem?_getD])
          · (repeat refine sk ?_)
            ((repeat refine sk ?_); refine PCall.use (ih) [] rfl (by simp [push_cast]) (by simp) (by simp [push_cast]) (by simp [push_cast]) (by simp [push_cast]) (by simp [push_cast]) ?_)
            rintro _ _ ⟨rfl, rfl⟩
            (simp only [push_cast, seval, Nat.reduceEqDiff, Nat.reduceLeDiff, reduceCtorEq, e1, e2, w1, w2, w3, e3]; (repeat refine sk ?_); refine hK _ ?_; clear hK K)
            ((repeat refine PWp.seq ?_); refine PWp.ret ?_)
            refine ⟨.inr rfl, by omega, _, [], ?_, rfl, rfl⟩
            rw [hbig]
            (simp [push_cast, -List.getD_eq_getElem?_getD])
end Go.Proofs.Ytjlnialglahdoaa
