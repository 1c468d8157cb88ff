/- Walk of jalousieref06.Numbers. -/
import Derived.Test.YtjcdmdejhbmoeaaT3
namespace Go.Proofs.Ytjcdmdejhbmoeaa
open Go.PL
set_option maxRecDepth 100000
set_option linter.unusedSimpArgs false
set_option linter.unusedVariables false
def numL (kn : List Ln) (l : List Ln) : List Int := l.map fun x => (kn.idxOf x : Int)
theorem numL_app {kn ys l : List Ln} (h : ∀ x ∈ l, x ∈ kn) : numL (kn ++ ys) l = numL kn l := by
  unfold numL
  refine List.map_congr_left (fun x hx => ?_)
  rw [List.idxOf_append, if_pos (h x hx)]
def iNums (kn : List Ln) (ls : List (List Ln)) : List IV := ls.map fun l => .sl 1 ((numL kn l).map encI)
theorem iNums_app {kn ys : List Ln} {ls : List (List Ln)} (h : ∀ l ∈ ls, ∀ x ∈ l, x ∈ kn) : iNums (kn ++ ys) ls = iNums kn ls := by
  unfold iNums
  refine List.map_congr_left (fun l hl => ?_)
  rw [numL_app (h l hl)]
/-- The first so many are other lines. -/
theorem idxOf_first {kn : List Ln} {x : Ln} {n : Nat} (hn : n < kn.length) (hf : ∀ i < n, kn.getD i default ≠ x) (he : kn.getD n default = x) : kn.idxOf x = n := by
  induction kn generalizing n with
  | nil => simp at hn
  | cons y kn ih =>
    cases n with
    | zero => simp at he; simp [he]
    | succ n =>
      have h0 : y ≠ x := by simpa using hf 0 (by omega)
      rw [List.idxOf_cons, beq_eq_false_iff_ne.2 h0, cond_false, ih (by simpa using hn) (fun i hi => by simpa using hf (i + 1) (by omega)) (by simpa using he)]
theorem idxOf_none {kn : List Ln} {x : Ln} (hf : ∀ i < kn.length, kn.getD i default ≠ x) : x ∉ kn := by
  intro hx
  obtain ⟨i, hi, rfl⟩ := List.getElem_of_mem hx
  exact hf i hi (by simp [List.getD, hi])
theorem ref06_Numbers (ls : List (List Ln)) (hl : ls.length ≤ 1000) (hll : ∀ l ∈ ls, l.length ≤ 1000) : PC Try.prog 27 [.iv (.sl 1 (ls.map encLs))] [] 0 19
    (fun t obs => (∃ kn : List Ln, kn.Nodup ∧ (∀ l ∈ ls, ∀ x ∈ l, x ∈ kn) ∧ t = .iv (.sl 1 (iNums kn ls))) ∧ obs = []) := by
  refine PC.body [2] Try.func27 rfl (by rfl) (Nat.le_of_ble_eq_true (by rfl)) rfl ?_; simp only [enumA]
  ((repeat refine PWp.seq ?_); refine PWp.region TT (by rfl) (fun K hK => ?_); simp only [push_cast, seval, Nat.reduceEqDiff, Nat.reduceLeDiff, reduceCtorEq]; (repeat refine sk ?_); refine hK _ ?_; clear hK K)
  ((repeat refine PWp.seq ?_); refine PWp.region TT (by rfl) (fun K hK => ?_); simp only [push_cast, seval, Nat.reduceEqDiff, Nat.reduceLeDiff, reduceCtorEq]; (repeat refine sk ?_); refine hK _ ?_; clear hK K)
  ((repeat refine PWp.seq ?_); refine PWp.region TT (by rfl) (fun K hK => ?_); simp only [push_cast, seval, Nat.reduceEqDiff, Nat.reduceLeDiff, reduceCtorEq]; (repeat refine sk ?_); refine hK _ ?_; clear hK K)
  ((repeat refine PWp.seq ?_); refine PWp.region TT (by rfl) (fun K hK => ?_); simp only [push_cast, seval, Nat.reduceEqDiff, Nat.reduceLeDiff, reduceCtorEq]; (repeat refine sk ?_); refine hK _ ?_; clear hK K)
  ((repeat refine PWp.seq ?_); refine PWp.block ?_)
  refine PWp.loop (fun c st => ∃ (i : Nat) (kn : List Ln), c = ls.length - i ∧ i ≤ ls.length ∧ kn.Nodup ∧ kn.length ≤ i * 1000 ∧ (∀ l ∈ ls.take i, ∀ x ∈ l, x ∈ kn) ∧
    st = ⟨[(0, .iv (.sl 1 (ls.map encLs))), (3, .acc 0 2 (kn.map encL)), (4, .acc 1 1 (iNums kn (ls.take i))), (5, iI i)], [(1, .row 64 1), (0, .row 48 2)], 2⟩) _ _ ⟨0, [], rfl, Nat.zero_le _, List.nodup_nil, by simp, by simp, rfl⟩ (Gh.le (by simp [push_cast, -List.getD_eq_getElem?_getD, iNums]) (by simp)) ?_
  rintro c st ⟨i, kn, rfl, hi, hnd, hkl, hin, rfl⟩
  ((repeat refine PWp.seq ?_); refine PWp.region TT (by rfl) (fun K hK => ?_); simp only [push_cast, seval, Nat.reduceEqDiff, Nat.reduceLeDiff, reduceCtorEq]; (repeat refine sk ?_); refine hK _ ?_; clear hK K)
  ((repeat refine PWp.seq ?_); refine PWp.cond (by simp only [push_cast, seval, Nat.reduceEqDiff, Nat.reduceLeDiff, reduceCtorEq]; rfl) (fun hc => ?_) (fun hc => ?_))
  · have hlt : i < ls.length := by simpa using hc
    clear hc
    have hli := hll _ (getD_mem hlt)
    have hgl : (ls.map encLs).getD i .any = encLs (ls.getD i default) := getD_map hlt
    have htk : ls.take (i + 1) = ls.take i ++ [ls.getD i default] := take_succ_getD hlt
    generalize ls.getD i default = l at *
    have hil : (iNums kn (ls.take i)).length ≤ 1000 := by unfold iNums; rw [List.length_map, List.length_take]; omega
    ((repeat refine PWp.seq ?_); refine PWp.skip ?_)
    ((repeat refine PWp.seq ?_); refine PWp.block ?_)
    ((repeat refine PWp.seq ?_); refine PWp.region TT (by rfl) (fun K hK => ?_); simp only [push_cast, seval, Nat.reduceEqDiff, Nat.reduceLeDiff, reduceCtorEq]; (repeat refine sk ?_); refine hK _ ?_; clear hK K)
    ((repeat refine PWp.seq ?_); refine PWp.region TT (by rfl) (fun K hK => ?_); simp only [push_cast, seval, Nat.reduceEqDiff, Nat.reduceLeDiff, reduceCtorEq]; (repeat refine sk ?_); refine hK _ ?_; clear hK K)
    ((repeat refine PWp.seq ?_); refine PWp.block ?_)
    refine PWp.loop (fun c st => ∃ (k : Nat) (kn : List Ln), c = l.length - k ∧ k ≤ l.length ∧ kn.Nodup ∧ kn.length ≤ i * 1000 + k ∧ (∀ l ∈ ls.take i, ∀ x ∈ l, x ∈ kn) ∧ (∀ x ∈ l.take k, x ∈ kn) ∧
      st = ⟨[(0, .iv (.sl 1 (ls.map encLs))), (3, .acc 0 2 (kn.map encL)), (4, .acc 1 1 (iNums kn (ls.take i))), (5, iI i), (6, .acc 2 1 ((numL kn (l.take k)).map encI)), (7, iI k)], [(2, .row 3 1), (1, .row 64 1), (0, .row 48 2)], 3⟩) _ _ ⟨0, kn, rfl, Nat.zero_le _, hnd, by omega, hin, by simp, rfl⟩ (Gh.le (by simp [push_cast, -List.getD_eq_getElem?_getD, numL]) (by simp)) ?_
    clear hnd hkl hin hil kn
    rintro c st ⟨k, kn, rfl, hk, hnd, hkl, hin, hin2, rfl⟩
    ((repeat refine PWp.seq ?_); refine PWp.region TT (by rfl) (fun K hK => ?_); simp only [push_cast, seval, Nat.reduceEqDiff, Nat.reduceLeDiff, reduceCtorEq, hgl]; (repeat refine sk ?_); refine hK _ ?_; clear hK K)
    ((repeat refine PWp.seq ?_); refine PWp.cond (by simp only [push_cast, seval, Nat.reduceEqDiff, Nat.reduceLeDiff, reduceCtorEq]; rfl) (fun hc => ?_) (fun hc => ?_))
    · have hlt2 : k < l.length := by simpa using hc
      clear hc
      have hgx : (l.map encL).getD k .any = encL (l.getD k default) := getD_map hlt2
      have htk2 : l.take (k + 1) = l.take k ++ [l.getD k default] := take_succ_getD hlt2
      generalize l.getD k default = x at *
      ((repeat refine PWp.seq ?_); refine PWp.skip ?_)
      ((repeat refine PWp.seq ?_); refine PWp.block ?_)
      ((repeat refine PWp.seq ?_); refine PWp.region TT (by rfl) (fun K hK => ?_); simp only [push_cast, seval, Nat.reduceEqDiff, Nat.reduceLeDiff, reduceCtorEq]; (repeat refine sk ?_); refine hK _ ?_; clear hK K)
      ((repeat refine PWp.seq ?_); refine PWp.block ?_)
      refine PWp.loop (fun c st => ∃ n : Nat, c = kn.length - n ∧ n ≤ kn.length ∧ (∀ i < n, kn.getD i default ≠ x) ∧
        st = ⟨[(0, .iv (.sl 1 (ls.map encLs))), (3, .acc 0 2 (kn.map encL)), (4, .acc 1 1 (iNums kn (ls.take i))), (5, iI i), (6, .acc 2 1 ((numL kn (l.take k)).map encI)), (7, iI k), (8, iI n)], [(2, .row 3 1), (1, .row 64 1), (0, .row 48 2)], 3⟩) _ _ ⟨0, rfl, Nat.zero_le _, by simp, rfl⟩ (Gh.le (by simp [push_cast, -List.getD_eq_getElem?_getD]) (by simp)) ?_
      rintro c st ⟨n, rfl, hn, hf, rfl⟩
      have hkl2 : (numL kn (l.take k)).length ≤ 1000 := by unfold numL; rw [List.length_map, List.length_take]; omega
      by_cases hnl : n < kn.length
      · have hd : decide ((n : Int) < (kn.length : Int)) = true := decide_eq_true (by omega)
        ((repeat refine PWp.seq ?_); refine PWp.draw TT (by kernel_rfl) (by kernel_rfl) (by rfl) (by rfl) (fun K hK => ?_); simp only [push_cast, seval, Nat.reduceEqDiff, Nat.reduceLeDiff, reduceCtorEq, hd, getD_map hnl, hgl, hgx]; (repeat refine sk ?_); refine hK _ ?_; clear hK K)
        ((repeat refine PWp.seq ?_); refine PWp.cond (by simp only [push_cast, seval, Nat.reduceEqDiff, Nat.reduceLeDiff, reduceCtorEq]; rfl) (fun hc => ?_) (fun hc => ?_))
        · have hne : kn.getD n default ≠ x := by
            intro e
            rw [e] at hc
            simp at hc
          clear hc
          ((repeat refine PWp.seq ?_); refine PWp.skip ?_)
          ((repeat refine PWp.seq ?_); refine PWp.block ?_)
          ((repeat refine PWp.seq ?_); refine PWp.region TT (by rfl) (fun K hK => ?_); simp only [push_cast, seval, Nat.reduceEqDiff, Nat.reduceLeDiff, reduceCtorEq, wrap64_id (n := (n : Int) + 1) (by omega) (by omega)]; (repeat refine sk ?_); refine hK _ ?_; clear hK K)
          refine ⟨_, _, ?_, ⟨n + 1, rfl, by omega, fun i' hi' => ?_, rfl⟩, Gh.le (by simp [push_cast, -List.getD_eq_getElem?_getD]) (by simp)⟩
          · omega
          · by_cases e : i' = n
            · subst e; exact hne
            · exact hf i' (by omega)
        · have he : kn.getD n default = x := lnEq (by simpa using hc)
          clear hc
          have hx : x ∈ kn := by rw [← he]; exact getD_mem hnl
          have hidx := idxOf_first hnl hf he
          have hnum : numL kn (l.take k ++ [x]) = numL kn (l.take k) ++ [(n : Int)] := by simp [numL, hidx]
          (repeat refine PWp.seq ?_); refine PWp.exit (iteT rfl ?_)
          ((repeat refine PWp.seq ?_); refine PWp.region TT (by rfl) (fun K hK => ?_); simp only [push_cast, seval, Nat.reduceEqDiff, Nat.reduceLeDiff, reduceCtorEq]; (repeat refine sk ?_); refine hK _ ?_; clear hK K)
          ((repeat refine PWp.seq ?_); refine PWp.cond (by simp only [push_cast, seval, Nat.reduceEqDiff, Nat.reduceLeDiff, reduceCtorEq]; rfl) (fun hc => ?_) (fun hc => ?_))
          · exfalso
            simp at hc
            omega
          · clear hc
            ((repeat refine PWp.seq ?_); refine PWp.skip ?_)
            ((repeat refine PWp.seq ?_); refine PWp.region TT (by rfl) (fun K hK => ?_); simp only [push_cast, seval, Nat.reduceEqDiff, Nat.reduceLeDiff, reduceCtorEq]; (repeat refine sk ?_); refine hK _ ?_; clear hK K)
            ((repeat refine PWp.seq ?_); refine PWp.region TT (by rfl) (fun K hK => ?_); simp only [push_cast, seval, Nat.reduceEqDiff, Nat.reduceLeDiff, reduceCtorEq, wrap64_id (n := (k : Int) + 1) (by omega) (by omega)]; (repeat refine sk ?_); refine hK _ ?_; clear hK K)
            refine ⟨_, _, ?_, ⟨k + 1, kn, rfl, by omega, hnd, by omega, hin, fun y hy => ?_, rfl⟩, Gh.le (by simp [push_cast, -List.getD_eq_getElem?_getD, htk2, hnum]) (by simp)⟩
            · omega
            · rw [htk2] at hy
              rcases List.mem_append.1 hy with hy | hy
              · exact hin2 y hy
              · simp only [List.mem_singleton] at hy
                subst hy; exact hx
      · have hnl' : n = kn.length := by omega
        subst hnl'
        have hd : decide ((kn.length : Int) < (kn.length : Int)) = false := decide_eq_false (by omega)
        have hga : (kn.map encL).getD kn.length .any = .any := by simp [List.getD]
        have hx : x ∉ kn := idxOf_none hf
        have hnum : numL (kn ++ [x]) (l.take k ++ [x]) = numL kn (l.take k) ++ [(kn.length : Int)] := by
          have := numL_app (ys := [x]) hin2
          unfold numL at this ⊢
          rw [List.map_append, this]
          simp [List.idxOf_append, hx]
        have hiN := iNums_app (ys := [x]) hin
        ((repeat refine PWp.seq ?_); refine PWp.draw TT (by kernel_rfl) (by kernel_rfl) (by rfl) (by rfl) (fun K hK => ?_); simp only [push_cast, seval, Nat.reduceEqDiff, Nat.reduceLeDiff, reduceCtorEq, hd, hga, hgl, hgx]; (repeat refine sk ?_); refine hK _ ?_; clear hK K)
        ((repeat refine PWp.seq ?_); refine PWp.cond (by simp only [push_cast, seval, Nat.reduceEqDiff, Nat.reduceLeDiff, reduceCtorEq]; rfl) (fun hc => ?_) (fun hc => ?_))
        · cases hc
        · clear hc
          (repeat refine PWp.seq ?_); refine PWp.exit (iteT rfl ?_)
          ((repeat refine PWp.seq ?_); refine PWp.region TT (by rfl) (fun K hK => ?_); simp only [push_cast, seval, Nat.reduceEqDiff, Nat.reduceLeDiff, reduceCtorEq]; (repeat refine sk ?_); refine hK _ ?_; clear hK K)
          ((repeat refine PWp.seq ?_); refine PWp.cond (by simp only [push_cast, seval, Nat.reduceEqDiff, Nat.reduceLeDiff, reduceCtorEq]; rfl) (fun hc => ?_) (fun hc => ?_))
          · clear hc
            ((repeat refine PWp.seq ?_); refine PWp.region TT (by rfl) (fun K hK => ?_); simp only [push_cast, seval, Nat.reduceEqDiff, Nat.reduceLeDiff, reduceCtorEq, hgl, hgx]; (repeat refine sk ?_); refine hK _ ?_; clear hK K)
            ((repeat refine PWp.seq ?_); refine PWp.region TT (by rfl) (fun K hK => ?_); simp only [push_cast, seval, Nat.reduceEqDiff, Nat.reduceLeDiff, reduceCtorEq]; (repeat refine sk ?_); refine hK _ ?_; clear hK K)
            ((repeat refine PWp.seq ?_); refine PWp.region TT (by rfl) (fun K hK => ?_); simp only [push_cast, seval, Nat.reduceEqDiff, Nat.reduceLeDiff, reduceCtorEq, wrap64_id (n := (k : Int) + 1) (by omega) (by omega)]; (repeat refine sk ?_); refine hK _ ?_; clear hK K)
            refine ⟨_, _, ?_, ⟨k + 1, kn ++ [x], rfl, by omega, ?_, by simp; omega, fun q hq y hy => List.mem_append_left _ (hin q hq y hy), fun y hy => ?_, rfl⟩, Gh.le (by simp [push_cast, -List.getD_eq_getElem?_getD, htk2, hnum, hiN]) (by simp)⟩
            · omega
            · rw [List.nodup_append]
              refine ⟨hnd, by simp, fun y hy z hz => ?_⟩
              simp only [List.mem_singleton] at hz
              subst hz
              intro e
              subst e
              exact hx hy
            · rw [htk2] at hy
              rcases List.mem_append.1 hy with hy | hy
              · exact List.mem_append_left _ (hin2 y hy)
              · exact List.mem_append_right _ hy
          · simp at hc
    · have hk' : k = l.length := by simp at hc; omega
      subst hk'
      rw [List.take_length] at *
      have hnew : iNums kn (ls.take i ++ [l]) = iNums kn (ls.take i) ++ [.sl 1 ((numL kn l).map encI)] := by simp [iNums]
      have hil2 : (iNums kn (ls.take i)).length ≤ 1000 := by unfold iNums; rw [List.length_map, List.length_take]; omega
      (repeat refine PWp.seq ?_); refine PWp.exit (iteT rfl ?_)
      ((repeat refine PWp.seq ?_); refine PWp.region TT (by rfl) (fun K hK => ?_); simp only [push_cast, seval, Nat.reduceEqDiff, Nat.reduceLeDiff, reduceCtorEq]; (repeat refine sk ?_); refine hK _ ?_; clear hK K)
      ((repeat refine PWp.seq ?_); refine PWp.region TT (by rfl) (fun K hK => ?_); simp only [push_cast, seval, Nat.reduceEqDiff, Nat.reduceLeDiff, reduceCtorEq, wrap64_id (n := (i : Int) + 1) (by omega) (by omega)]; (repeat refine sk ?_); refine hK _ ?_; clear hK K)
      refine ⟨_, _, ?_, ⟨i + 1, kn, rfl, by omega, hnd, by omega, fun q hq y hy => ?_, rfl⟩, Gh.le (by simp [push_cast, -List.getD_eq_getElem?_getD, htk, hnew]) (by simp)⟩
      · omega
      · rw [htk] at hq
        rcases List.mem_append.1 hq with hq | hq
        · exact hin q hq y hy
        · simp only [List.mem_singleton] at hq
          subst hq; exact hin2 y hy
  · have hi' : i = ls.length := by simp at hc; omega
    subst hi'
    rw [List.take_length] at *
    (repeat refine PWp.seq ?_); refine PWp.exit (iteT rfl ?_)
    ((repeat refine PWp.seq ?_); refine PWp.region TT (by rfl) (fun K hK => ?_); simp only [push_cast, seval, Nat.reduceEqDiff, Nat.reduceLeDiff, reduceCtorEq]; (repeat refine sk ?_); refine hK _ ?_; clear hK K)
    ((repeat refine PWp.seq ?_); refine PWp.ret ?_)
    refine ⟨.inr rfl, by omega, _, [], ?_, ⟨kn, hnd, hin, rfl⟩, rfl⟩
    (simp [push_cast, -List.getD_eq_getElem?_getD])
end Go.Proofs.Ytjcdmdejhbmoeaa
