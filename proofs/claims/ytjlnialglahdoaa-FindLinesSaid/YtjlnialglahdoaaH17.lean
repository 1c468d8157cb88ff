/- Lines that fit; near; numbers the same. -/
import Derived.Test.YtjlnialglahdoaaH12
import Derived.Test.YtjlnialglahdoaaH16
namespace Go.Proofs.Ytjlnialglahdoaa
open Go.PL
set_option maxRecDepth 100000
set_option linter.unusedSimpArgs false
set_option linter.unusedVariables false
def fitL (p : List UInt8) (l : List Ln) (i : Nat) : Bool := (spB p (l.getD i default).t).2.2
def liK (p : List UInt8) (l : List Ln) (k : Nat) : List Int := ((List.range k).filter (fitL p l)).map fun (i : Nat) => (i : Int)
theorem liK_succ (p : List UInt8) (l : List Ln) (k : Nat) : liK p l (k + 1) = liK p l k ++ (if fitL p l k then [(k : Int)] else []) := by
  unfold liK
  rw [List.range_succ, List.filter_append, List.map_append]
  congr 1
  cases h : fitL p l k <;> simp [List.filter, h]
theorem liK_len (p : List UInt8) (l : List Ln) (k : Nat) : (liK p l k).length ≤ k := by
  unfold liK
  rw [List.length_map]
  have := List.length_filter_le (fitL p l) (List.range k)
  rwa [List.length_range] at this
theorem liK_in {p : List UInt8} {l : List Ln} {k : Nat} : ∀ x ∈ liK p l k, 0 ≤ x ∧ x < k := by
  intro x hx
  unfold liK at hx
  obtain ⟨i, hi, rfl⟩ := List.mem_map.1 hx
  have := List.mem_range.1 (List.mem_filter.1 hi).1
  omega
def plA (p : List UInt8) (l : List Ln) : List Int := if parE p = 0 then liK p l l.length else []
def okL (l : List Ln) : Prop := ∀ x ∈ l, x.t.length ≤ 40
theorem okL_get {l : List Ln} (h : okL l) {k : Nat} (hk : k < l.length) : (l.getD k default).t.length ≤ 40 := h _ (getD_mem hk)
theorem find_Lines (l : List Ln) (p : List UInt8) (hl : l.length ≤ 1000) (ht : okL l) (hp : p.length ≤ 9223372036854775807) : PC Try.prog 19 [iL l, iS p] [] 0 20
    (fun t obs => t = .tup [iN (plA p l), iI (parE p)] ∧ obs = []) := by
  refine PC.body [4, 5] Try.func19 rfl (by rfl) (Nat.le_of_ble_eq_true (by rfl)) rfl ?_; simp only [enumA]
  ((repeat refine PWp.seq ?_); refine PWp.region TT (by rfl) (fun K hK => ?_); simp only [push_cast, seval, Nat.reduceEqDiff, Nat.reduceLeDiff, reduceCtorEq]; (repeat refine sk ?_); refine hK _ ?_; clear hK K)
  ((repeat refine PWp.seq ?_); refine PWp.region TT (by rfl) (fun K hK => ?_); simp only [push_cast, seval, Nat.reduceEqDiff, Nat.reduceLeDiff, reduceCtorEq])
  ((repeat refine sk ?_); refine PCall.use (find_Check p hp) [] rfl (by simp [push_cast]) (by simp) (by simp [push_cast]) (by simp [push_cast]) (by simp [push_cast]) (by simp [push_cast]) ?_)
  rintro _ _ ⟨rfl, rfl⟩
  (simp only [push_cast, seval, Nat.reduceEqDiff, Nat.reduceLeDiff, reduceCtorEq]; (repeat refine sk ?_); refine hK _ ?_; clear hK K)
  by_cases he : parE p = 0
  · have hb : (parE p != 0) = false := by rw [he]; rfl
    have hpl : plA p l = liK p l l.length := if_pos he
    ((repeat refine PWp.seq ?_); refine PWp.region TT (by rfl) (fun K hK => ?_); simp only [push_cast, seval, Nat.reduceEqDiff, Nat.reduceLeDiff, reduceCtorEq, hb]; (repeat refine sk ?_); refine hK _ ?_; clear hK K)
    ((repeat refine PWp.seq ?_); refine PWp.cond (by simp only [push_cast, seval, Nat.reduceEqDiff, Nat.reduceLeDiff, reduceCtorEq]; rfl) (fun hc => ?_) (fun hc => ?_))
    · cases hc
    · clear hc
      ((repeat refine PWp.seq ?_); refine PWp.skip ?_)
      ((repeat refine PWp.seq ?_); refine PWp.region TT (by rfl) (fun K hK => ?_); simp only [push_cast, seval, Nat.reduceEqDiff, Nat.reduceLeDiff, reduceCtorEq]; (repeat refine sk ?_); refine hK _ ?_; clear hK K)
      refine PWp.gh (Gh.row 7 3 1 (by rfl)) ?_
      ((repeat refine PWp.seq ?_); refine PWp.region TT (by rfl) (fun K hK => ?_); simp only [push_cast, seval, Nat.reduceEqDiff, Nat.reduceLeDiff, reduceCtorEq]; (repeat refine sk ?_); refine hK _ ?_; clear hK K)
      refine PWp.gh (st' := ⟨[(1, iS p), (7, .acc 0 1 []), (18, iL l), (19, iI l.length), (20, iI 0)], [(0, .row 3 1)], 1⟩) (Gh.leR [9] (by simp [push_cast, -List.getD_eq_getElem?_getD]; try decide)) ?_
      ((repeat refine PWp.seq ?_); refine PWp.block ?_)
      refine PWp.loop (fun d st => ∃ k : Nat, d = l.length - k ∧ k ≤ l.length ∧
        st = ⟨[(1, iS p), (7, .acc 0 1 ((liK p l k).map encI)), (18, iL l), (19, iI l.length), (20, iI k)], [(0, .row 3 1)], 1⟩) _ _ ⟨0, rfl, Nat.zero_le _, rfl⟩ (Gh.le (by simp [push_cast, -List.getD_eq_getElem?_getD, show liK p l 0 = [] from rfl]) (by simp)) ?_
      rintro d st ⟨k, rfl, hk, rfl⟩
      ((repeat refine PWp.seq ?_); refine PWp.region TT (by rfl) (fun K hK => ?_); simp only [push_cast, seval, Nat.reduceEqDiff, Nat.reduceLeDiff, reduceCtorEq]; (repeat refine sk ?_); refine hK _ ?_; clear hK K)
      ((repeat refine PWp.seq ?_); refine PWp.cond (by simp only [push_cast, seval, Nat.reduceEqDiff, Nat.reduceLeDiff, reduceCtorEq]; rfl) (fun hc => ?_) (fun hc => ?_))
      · have hlt : k < l.length := by have := of_decide_eq_true hc; omega
        clear hc
        have hs := liK_succ p l k
        have hll := liK_len p l k
        have hxl := okL_get ht hlt
        have hg : (l.map encL).getD k .any = encL (l.getD k default) := getD_map hlt
        unfold fitL at hs
        generalize l.getD k default = x at *
        ((repeat refine PWp.seq ?_); refine PWp.skip ?_)
        ((repeat refine PWp.seq ?_); refine PWp.block ?_)
        ((repeat refine PWp.seq ?_); refine PWp.region TT (by rfl) (fun K hK => ?_); simp only [push_cast, seval, Nat.reduceEqDiff, Nat.reduceLeDiff, reduceCtorEq, hg]; (repeat refine sk ?_); refine hK _ ?_; clear hK K)
        ((repeat refine PWp.seq ?_); refine PWp.region TT (by rfl) (fun K hK => ?_); simp only [push_cast, seval, Nat.reduceEqDiff, Nat.reduceLeDiff, reduceCtorEq])
        ((repeat refine sk ?_); refine PCall.use (find_Span p x.t hp (by omega)) [] rfl (by simp [push_cast]) (by simp) (by simp [push_cast]) (by simp [push_cast]) (by simp [push_cast]) (by simp [push_cast]) ?_)
        rintro _ _ ⟨rfl, rfl⟩
        (simp only [push_cast, seval, Nat.reduceEqDiff, Nat.reduceLeDiff, reduceCtorEq]; (repeat refine sk ?_); refine hK _ ?_; clear hK K)
        ((repeat refine PWp.seq ?_); refine PWp.region TT (by rfl) (fun K hK => ?_); simp only [push_cast, seval, Nat.reduceEqDiff, Nat.reduceLeDiff, reduceCtorEq]; (repeat refine sk ?_); refine hK _ ?_; clear hK K)
        cases hb2 : (spB p x.t).2.2 with
        | true =>
          rw [hb2, if_pos rfl] at hs
          ((repeat refine PWp.seq ?_); refine PWp.cond (by simp only [push_cast, seval, Nat.reduceEqDiff, Nat.reduceLeDiff, reduceCtorEq]; rfl) (fun hc => ?_) (fun hc => ?_))
          · ((repeat refine PWp.seq ?_); refine PWp.region TT (by rfl) (fun K hK => ?_); simp only [push_cast, seval, Nat.reduceEqDiff, Nat.reduceLeDiff, reduceCtorEq]; (repeat refine sk ?_); refine hK _ ?_; clear hK K)
            ((repeat refine PWp.seq ?_); refine PWp.region TT (by rfl) (fun K hK => ?_); simp only [push_cast, seval, Nat.reduceEqDiff, Nat.reduceLeDiff, reduceCtorEq, wrap64_id (n := (k : Int) + 1) (by omega) (by omega)]; (repeat refine sk ?_); refine hK _ ?_; clear hK K)
            refine ⟨_, _, ?_, ⟨k + 1, rfl, by omega, rfl⟩, Gh.le (by simp [push_cast, -List.getD_eq_getElem?_getD, hs]) (by simp)⟩
            omega
          · cases hc
        | false =>
          rw [hb2, if_neg (by decide), List.append_nil] at hs
          ((repeat refine PWp.seq ?_); refine PWp.cond (by simp only [push_cast, seval, Nat.reduceEqDiff, Nat.reduceLeDiff, reduceCtorEq]; rfl) (fun hc => ?_) (fun hc => ?_))
          · cases hc
          · ((repeat refine PWp.seq ?_); refine PWp.skip ?_)
            ((repeat refine PWp.seq ?_); refine PWp.region TT (by rfl) (fun K hK => ?_); simp only [push_cast, seval, Nat.reduceEqDiff, Nat.reduceLeDiff, reduceCtorEq, wrap64_id (n := (k : Int) + 1) (by omega) (by omega)]; (repeat refine sk ?_); refine hK _ ?_; clear hK K)
            refine ⟨_, _, ?_, ⟨k + 1, rfl, by omega, rfl⟩, Gh.le (by simp [push_cast, -List.getD_eq_getElem?_getD, hs]) (by simp)⟩
            omega
      · have hk' : k = l.length := by have := of_decide_eq_false hc; omega
        subst hk'
        clear hc
        (repeat refine PWp.seq ?_); refine PWp.exit (iteT rfl ?_)
        ((repeat refine PWp.seq ?_); refine PWp.region TT (by rfl) (fun K hK => ?_); simp only [push_cast, seval, Nat.reduceEqDiff, Nat.reduceLeDiff, reduceCtorEq]; (repeat refine sk ?_); refine hK _ ?_; clear hK K)
        ((repeat refine PWp.seq ?_); refine PWp.ret ?_)
        refine ⟨.inr rfl, by omega, _, [], ?_, rfl, rfl⟩
        rw [hpl, he]
        (simp [push_cast, -List.getD_eq_getElem?_getD])
  · have hb : (parE p != 0) = true := bne_iff_ne.2 he
    have hpl : plA p l = [] := if_neg he
    ((repeat refine PWp.seq ?_); refine PWp.region TT (by rfl) (fun K hK => ?_); simp only [push_cast, seval, Nat.reduceEqDiff, Nat.reduceLeDiff, reduceCtorEq, hb]; (repeat refine sk ?_); refine hK _ ?_; clear hK K)
    ((repeat refine PWp.seq ?_); refine PWp.cond (by simp only [push_cast, seval, Nat.reduceEqDiff, Nat.reduceLeDiff, reduceCtorEq]; rfl) (fun hc => ?_) (fun hc => ?_))
    · ((repeat refine PWp.seq ?_); refine PWp.region TT (by rfl) (fun K hK => ?_); simp only [push_cast, seval, Nat.reduceEqDiff, Nat.reduceLeDiff, reduceCtorEq]; (repeat refine sk ?_); refine hK _ ?_; clear hK K)
      ((repeat refine PWp.seq ?_); refine PWp.ret ?_)
      refine ⟨.inr rfl, by omega, _, [], ?_, rfl, rfl⟩
      rw [hpl]
      (simp [push_cast, -List.getD_eq_getElem?_getD])
    · cases hc
end Go.Proofs.Ytjlnialglahdoaa
