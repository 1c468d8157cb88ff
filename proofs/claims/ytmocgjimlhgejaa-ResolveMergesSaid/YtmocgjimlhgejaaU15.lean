/- ResolveParses; what was parsed, printed. -/
import Derived.Test.YtmocgjimlhgejaaU14
namespace Go.Proofs.Ytmocgjimlhgejaa
open Go.PL
set_option maxRecDepth 100000
set_option linter.unusedSimpArgs false
set_option linter.unusedVariables false
theorem mn_takeN {α : Type} (l : List α) (n : Nat) : l.take (mn (l.length : Int) n).toNat = l.take n := by
  unfold mn
  split
  · simp
  · rw [Int.toNat_natCast, List.take_length, List.take_of_length_le (by omega)]
def rgK (x : Rg) (k : Nat) : Prop := x.l.length ≤ k ∧ x.m.length ≤ k ∧ x.o.length ≤ k ∧ x.h.length ≤ k
def rdK (r : Rd) (k : Nat) : Prop := rgK r.now k ∧ ∀ x ∈ r.out, rgK x k
theorem rgK_mono {x : Rg} {k n : Nat} (h : rgK x k) (hk : k ≤ n) : rgK x n := ⟨by have := h.1; omega, by have := h.2.1; omega, by have := h.2.2.1; omega, by have := h.2.2.2; omega⟩
theorem rdK_flush {r : Rd} {k : Nat} (h : rdK r k) : ∀ x ∈ (flushR r).out, rgK x k := by
  intro x hx
  unfold flushR at hx
  simp only at hx
  split at hx
  · rcases List.mem_append.1 hx with hx | hx
    · exact h.2 x hx
    · rw [List.mem_singleton.1 hx]
      exact h.1
  · exact h.2 x hx
theorem noRg_K (k : Nat) : rgK noRg k := ⟨Nat.zero_le _, Nat.zero_le _, Nat.zero_le _, Nat.zero_le _⟩
theorem rdK_take {r r' : Rd} {k : Nat} {x : Ln} (h : rdK r k) (ht : takeR r x = some r') : rdK r' (k + 1) := by
  have hf := rdK_flush h
  obtain ⟨⟨a1, a2, a3, a4⟩, ho⟩ := id h
  unfold takeR at ht
  split at ht
  · injection ht with ht
    subst ht
    unfold takeL
    split
    · exact ⟨⟨by simp; omega, by simp only; omega, by simp only; omega, by simp only; omega⟩, fun y hy => rgK_mono (ho y hy) (by omega)⟩
    · split
      · exact ⟨⟨by simp only; omega, by simp; omega, by simp only; omega, by simp only; omega⟩, fun y hy => rgK_mono (ho y hy) (by omega)⟩
      · split
        · exact ⟨⟨by simp only; omega, by simp only; omega, by simp; omega, by simp only; omega⟩, fun y hy => rgK_mono (ho y hy) (by omega)⟩
        · exact ⟨⟨by simp only; omega, by simp only; omega, by simp only; omega, by simp; omega⟩, fun y hy => rgK_mono (ho y hy) (by omega)⟩
  · split at ht
    · injection ht with ht
      subst ht
      unfold markR
      refine ⟨?_, fun y hy => ?_⟩
      · simp only
        split
        · exact ⟨Nat.zero_le _, Nat.zero_le _, Nat.zero_le _, Nat.zero_le _⟩
        · split
          · exact noRg_K _
          · exact rgK_mono h.1 (by omega)
      · simp only at hy
        split at hy
        · exact rgK_mono (hf y hy) (by omega)
        · exact rgK_mono (ho y hy) (by omega)
    · cases ht
theorem parF_K : ∀ (l : List Ln) (r : Rd) (k n : Nat), rdK r n → (∀ x ∈ (parF r k l).1, rgK x (n + l.length)) ∧ (parF r k l).1.length ≤ r.out.length + l.length + 1
  | [], r, k, n, h => by
    rw [parF]
    split
    · refine ⟨rdK_flush h, ?_⟩
      unfold flushR
      simp only
      split
      · simp
      · simp
    · exact ⟨by simp, by simp⟩
  | x :: l, r, k, n, h => by
    rw [parF]
    cases ht : takeR r x with
    | none => exact ⟨by simp, by simp⟩
    | some r' =>
      obtain ⟨h1, h2⟩ := parF_K l r' (k + 1) (n + 1) (rdK_take h ht)
      have ho : r'.out.length ≤ r.out.length + 1 := by
        unfold takeR at ht
        split at ht
        · injection ht with ht
          subst ht
          unfold takeL
          split
          · simp
          · split
            · simp
            · split <;> simp
        · split at ht
          · injection ht with ht
            subst ht
            unfold markR flushR
            simp only
            split
            · split <;> simp
            · simp
          · cases ht
      simp only [List.length_cons]
      refine ⟨fun y hy => rgK_mono (h1 y hy) (by omega), by omega⟩
theorem parR_big (l : List Ln) (hl : l.length ≤ 900) : (parR l).1.length ≤ 1000 ∧ ∀ x ∈ (parR l).1, rgK x 900 := by
  obtain ⟨h1, h2⟩ := parF_K l rd0 0 0 ⟨noRg_K 0, by simp [rd0]⟩
  unfold parR
  refine ⟨?_, fun x hx => rgK_mono (h1 x hx) (by omega)⟩
  simp only [rd0, List.length_nil] at h2
  exact Nat.le_trans h2 (by omega)
theorem parR_bigR (l : List Ln) (hl : l.length ≤ 900) : bigR (parR l).1 := fun x hx => by
  obtain ⟨a, b, c, d⟩ := (parR_big l hl).2 x hx
  exact ⟨by omega, by omega, by omega, by omega⟩
theorem ResolveParses_walk (l : List Ln) : PC Try.prog 3 [iL l] [] 0 900 (fun t obs => t = iB true ∧ obs = []) := by
  have h1 : 0 ≤ mn (l.length : Int) 100 := by unfold mn; split <;> omega
  have h2 : mn (l.length : Int) 100 ≤ l.length := by unfold mn; split <;> omega
  have e1 : (l.map encL).take (mn (l.length : Int) 100).toNat = (l.take 100).map encL := by
    rw [← List.map_take]
    have := mn_takeN l 100
    exact congrArg _ this
  refine PC.body [2] Try.func3 rfl (by rfl) (Nat.le_of_ble_eq_true (by rfl)) rfl ?_; simp only [enumA]
  ((repeat refine PWp.seq ?_); refine PWp.region TT (by rfl) (fun K hK => ?_); simp only [push_cast, seval, Nat.reduceEqDiff, Nat.reduceLeDiff, reduceCtorEq]; (repeat refine sk ?_); refine hK _ ?_; clear hK K)
  ((repeat refine PWp.seq ?_); refine PWp.region TT (by rfl) (fun K hK => ?_); simp only [push_cast, seval, Nat.reduceEqDiff, Nat.reduceLeDiff, reduceCtorEq, e1]; (repeat refine sk ?_); refine hK _ ?_; clear hK K)
  clear h1 h2 e1
  have hL : (l.take 100).length ≤ 900 := by rw [List.length_take]; omega
  generalize l.take 100 = M at *
  obtain ⟨b1, b2⟩ := parR_big M hL
  have b3 := parR_bigR M hL
  ((repeat refine PWp.seq ?_); refine PWp.region TT (by rfl) (fun K hK => ?_); simp only [push_cast, seval, Nat.reduceEqDiff, Nat.reduceLeDiff, reduceCtorEq])
  ((repeat refine sk ?_); refine PCall.use (Parse_c M hL) [] rfl (by simp [push_cast]) (by simp) (by simp [push_cast]) (by simp [push_cast]) (by simp [push_cast]) (by simp [push_cast]) ?_)
  rintro _ _ ⟨rfl, rfl⟩
  (simp only [push_cast, seval, Nat.reduceEqDiff, Nat.reduceLeDiff, reduceCtorEq]; (repeat refine sk ?_); refine hK _ ?_; clear hK K)
  ((repeat refine PWp.seq ?_); refine PWp.region TT (by rfl) (fun K hK => ?_); simp only [push_cast, seval, Nat.reduceEqDiff, Nat.reduceLeDiff, reduceCtorEq])
  ((repeat refine sk ?_); refine PCall.use (ref_Parse_c M hL) [] rfl (by simp [push_cast]) (by simp) (by simp [push_cast]) (by simp [push_cast]) (by simp [push_cast]) (by simp [push_cast]) ?_)
  rintro _ _ ⟨rfl, rfl⟩
  (simp only [push_cast, seval, Nat.reduceEqDiff, Nat.reduceLeDiff, reduceCtorEq]; (repeat refine sk ?_); refine hK _ ?_; clear hK K)
  ((repeat refine PWp.seq ?_); refine PWp.region TT (by rfl) (fun K hK => ?_); simp only [push_cast, seval, Nat.reduceEqDiff, Nat.reduceLeDiff, reduceCtorEq])
  ((repeat refine sk ?_); refine PCall.use (live30_c) [] rfl (by simp [push_cast]) (by simp) (by simp [push_cast]) (by simp [push_cast]) (by simp [push_cast]) (by simp [push_cast]) ?_)
  rintro _ _ ⟨rfl, rfl⟩
  (simp only [push_cast, seval, Nat.reduceEqDiff, Nat.reduceLeDiff, reduceCtorEq])
  ((repeat refine sk ?_); refine PCall.use (Same_c (parR M).1 (parR M).1 (by omega) b3) [] rfl (by simp [push_cast]) (by simp) (by simp [push_cast]) (by simp [push_cast]) (by simp [push_cast]) (by simp [push_cast]) ?_)
  rintro _ _ ⟨rfl, rfl⟩
  (simp only [push_cast, seval, Nat.reduceEqDiff, Nat.reduceLeDiff, reduceCtorEq, show decide ((parR M).1 = (parR M).1) = true from decide_eq_true rfl, beq_self_eq_true]; (repeat refine sk ?_); refine hK _ ?_; clear hK K)
  ((repeat refine PWp.seq ?_); refine PWp.ret ?_)
  refine ⟨.inr rfl, by omega, _, [], ?_, rfl, rfl⟩
  (simp [push_cast, -List.getD_eq_getElem?_getD])
