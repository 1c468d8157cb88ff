/- The document's Around; the walk of FindAround. -/
import Derived.Test.YtjlnialglahdoaaH14
namespace Go.Proofs.Ytjlnialglahdoaa
open Go.PL
set_option maxRecDepth 100000
set_option linter.unusedSimpArgs false
set_option linter.unusedVariables false
def bdR (n : Int) (L : List Rg) : Prop := ∀ x ∈ L, 0 ≤ x.1 ∧ 0 ≤ x.2 ∧ x.1 + x.2 ≤ n
theorem ext_bd {n : Int} {L : List Rg} {a c : Int} (h : bdR n L) (ha : 0 ≤ a) (hc : c ≤ n) : bdR n (extR L a c) := by
  unfold extR
  by_cases hca : c ≤ a
  · rw [if_pos hca]; exact h
  · rw [if_neg hca]
    cases hL : L.getLast? with
    | none =>
      intro x hx
      simp only [List.mem_singleton] at hx
      subst hx
      exact ⟨ha, by show 0 ≤ c - a; omega, by show a + (c - a) ≤ n; omega⟩
    | some y =>
      have hy := h y (List.mem_of_getLast? hL)
      simp only
      split
      · intro x hx
        rcases List.mem_append.1 hx with hx | hx
        · exact h x hx
        · simp only [List.mem_singleton] at hx
          subst hx
          exact ⟨ha, by show 0 ≤ c - a; omega, by show a + (c - a) ≤ n; omega⟩
      · intro x hx
        rcases List.mem_append.1 hx with hx | hx
        · exact h x (List.dropLast_subset _ hx)
        · simp only [List.mem_singleton] at hx
          subst hx
          refine ⟨hy.1, ?_, ?_⟩
          · show 0 ≤ mx _ _ - _
            unfold mx; split <;> omega
          · show y.1 + (mx _ _ - _) ≤ n
            unfold mx; split <;> omega
theorem arF_bd {n r : Int} {P : List Int} : ∀ k, k ≤ P.length → bdR n (arF n r (P.take k))
  | 0, _ => by intro x hx; simp [arF] at hx
  | k + 1, h => by
    rw [arF_succ n r P (by omega)]
    refine ext_bd (arF_bd k (by omega)) ?_ ?_
    · unfold aR mx; split <;> omega
    · unfold bR mn; split <;> omega
theorem last_get {L : List Rg} {y : Rg} (h : L.getLast? = some y) : (L.map encR).getD (L.length - 1) .any = encR y ∧ 0 < L.length := by
  have hne : L ≠ [] := fun e => by rw [e] at h; cases h
  have hl : 0 < L.length := List.length_pos_iff.2 hne
  refine ⟨?_, hl⟩
  have hg : (L.map encR).getD (L.length - 1) .any = encR (L.getD (L.length - 1) default) := getD_map (by omega)
  rw [hg]
  congr 1
  rw [List.getLast?_eq_getElem?] at h
  rw [List.getD_eq_getElem?_getD, h]
  rfl
theorem set_last {L : List Rg} {y z : Rg} (h : L.getLast? = some y) : L.set (L.length - 1) z = L.dropLast ++ [z] := by
  have e := last_split h
  generalize L.dropLast = M at *
  subst e
  rw [List.length_append]
  simp
theorem encR_set {L : List Rg} {y z : Rg} (h : L.getLast? = some y) : (L.map encR).set (L.length - 1) (encR z) = (L.dropLast ++ [z]).map encR := by rw [← set_last h, List.map_set]
set_option maxHeartbeats 4000000 in
theorem ref_Around (P : List Int) (n r : Int) (hP : P.length ≤ 400) : PC Try.prog 17 [iN P, iI n, iI r] [] 0 9
    (fun t obs => t = .tup [iR (arL n r P), iI (arE n r P)] ∧ obs = []) := by
  refine PC.body [6, 7] Try.func17 rfl (by rfl) (Nat.le_of_ble_eq_true (by rfl)) rfl ?_; simp only [enumA]
  ((repeat refine PWp.seq ?_); refine PWp.region TT (by rfl) (fun K hK => ?_); simp only [push_cast, seval, Nat.reduceEqDiff, Nat.reduceLeDiff, reduceCtorEq]; (repeat refine sk ?_); refine hK _ ?_; clear hK K)
  ((repeat refine PWp.seq ?_); refine PWp.region TT (by rfl) (fun K hK => ?_); simp only [push_cast, seval, Nat.reduceEqDiff, Nat.reduceLeDiff, reduceCtorEq]; (repeat refine sk ?_); refine hK _ ?_; clear hK K)
  ((repeat refine PWp.seq ?_); refine PWp.cond (by simp only [push_cast, seval, Nat.reduceEqDiff, Nat.reduceLeDiff, reduceCtorEq]; rfl) (fun hc => ?_) (fun hc => ?_))
  · have hb : badA n r = true := by
      rw [bad_iff]
      simp only [Bool.or_eq_true, Bool.and_eq_true, Bool.not_eq_true', Bool.not_eq_false', Bool.or_eq_false_iff, Bool.and_eq_false_iff, decide_eq_true_eq, decide_eq_false_iff_not, beq_iff_eq, beq_eq_false_iff_ne, bne_iff_ne, bne_eq_false_iff_eq, ne_eq, Classical.not_not, Int.not_lt, Int.not_le, ge_iff_le, gt_iff_lt] at hc
      omega
    have e1 : arL n r P = [] := by unfold arL; rw [hb]; rfl
    have e2 : arE n r P = 2 := by unfold arE; rw [hb]; rfl
    ((repeat refine PWp.seq ?_); refine PWp.region TT (by rfl) (fun K hK => ?_); simp only [push_cast, seval, Nat.reduceEqDiff, Nat.reduceLeDiff, reduceCtorEq]; (repeat refine sk ?_); refine hK _ ?_; clear hK K)
    ((repeat refine PWp.seq ?_); refine PWp.ret ?_)
    refine ⟨.inr rfl, by omega, _, [], ?_, rfl, rfl⟩
    rw [e1, e2]
    (simp [push_cast, -List.getD_eq_getElem?_getD])
  · have hb : badA n r = false := by
      rw [← Bool.not_eq_true, bad_iff]
      simp only [Bool.or_eq_true, Bool.and_eq_true, Bool.not_eq_true', Bool.not_eq_false', Bool.or_eq_false_iff, Bool.and_eq_false_iff, decide_eq_true_eq, decide_eq_false_iff_not, beq_iff_eq, beq_eq_false_iff_ne, bne_iff_ne, bne_eq_false_iff_eq, ne_eq, Classical.not_not, Int.not_lt, Int.not_le, ge_iff_le, gt_iff_lt] at hc
      omega
    have hbd : 0 ≤ n ∧ n ≤ 1073741824 ∧ 0 ≤ r ∧ r ≤ 20 := by
      unfold badA at hb
      simp only [Bool.or_eq_false_iff, decide_eq_false_iff_not] at hb
      omega
    obtain ⟨b1, b2, b3, b4⟩ := hbd
    have e1 : ∀ b, okP n (-1) P = b → arL n r P = if b then arF n r P else [] := fun b h => by unfold arL; rw [hb, h]; rfl
    have e2 : ∀ b, okP n (-1) P = b → arE n r P = if b then 0 else 2 := fun b h => by unfold arE; rw [hb, h]; rfl
    clear hc
    ((repeat refine PWp.seq ?_); refine PWp.skip ?_)
    ((repeat refine PWp.seq ?_); refine PWp.region TT (by rfl) (fun K hK => ?_); simp only [push_cast, seval, Nat.reduceEqDiff, Nat.reduceLeDiff, reduceCtorEq]; (repeat refine sk ?_); refine hK _ ?_; clear hK K)
    ((repeat refine PWp.seq ?_); refine PWp.block ?_)
    refine PWp.loop (fun d st => ∃ (k : Nat) (last : Int), d = P.length - k ∧ k ≤ P.length ∧ okP n (-1) P = okP n last (P.drop k) ∧ -1 ≤ last ∧ (k = 0 ∧ last = -1 ∨ 0 < k ∧ last = P.getD (k - 1) default) ∧
      st = ⟨[(0, iN P), (1, iI n), (2, iI r), (8, iI k)], [], 0⟩) _ _ ⟨0, -1, rfl, Nat.zero_le _, rfl, Int.le_refl _, .inl ⟨rfl, rfl⟩, rfl⟩ (Gh.le (by simp [push_cast, -List.getD_eq_getElem?_getD]) (by simp)) ?_
    rintro d st ⟨k, last, rfl, hk, hN, hl1, hlast, rfl⟩
    ((repeat refine PWp.seq ?_); refine PWp.region TT (by rfl) (fun K hK => ?_); simp only [push_cast, seval, Nat.reduceEqDiff, Nat.reduceLeDiff, reduceCtorEq]; (repeat refine sk ?_); refine hK _ ?_; clear hK K)
    ((repeat refine PWp.seq ?_); refine PWp.cond (by simp only [push_cast, seval, Nat.reduceEqDiff, Nat.reduceLeDiff, reduceCtorEq]; rfl) (fun hc => ?_) (fun hc => ?_))
    · have hlt : k < P.length := by simp at hc; omega
      clear hc
      rw [drop_getD hlt] at hN
      have hN' : okP n (-1) P = (decide (last < P.getD k default) && decide (P.getD k default < n) && okP n (P.getD k default) (P.drop (k + 1))) := hN
      clear hN
      have hg : (P.map encI).getD k .any = encI (P.getD k default) := getD_map hlt
      have hg1 : (P.map encI).getD (k - 1) .any = encI (P.getD (k - 1) default) := getD_map (by omega)
      have t1 : ((k : Int) - 1).toNat = k - 1 := by omega
      have hp : ∀ q, q = P.getD k default → 0 ≤ q → (k + 1 = 0 ∧ q = -1 ∨ 0 < k + 1 ∧ q = P.getD (k + 1 - 1) default) := fun q h _ => .inr ⟨by omega, h⟩
      generalize hpe : P.getD k default = p at *
      generalize P.getD (k - 1) default = p' at *
      ((repeat refine PWp.seq ?_); refine PWp.skip ?_)
      ((repeat refine PWp.seq ?_); refine PWp.block ?_)
      ((repeat refine PWp.seq ?_); refine PWp.draw TT (by kernel_rfl) (by kernel_rfl) (by rfl) (by rfl) (fun K hK => ?_); simp only [push_cast, seval, Nat.reduceEqDiff, Nat.reduceLeDiff, reduceCtorEq, hg, hg1, t1, wrap64_id (n := (k : Int) - 1) (by omega) (by omega)]; (repeat refine sk ?_); refine hK _ ?_; clear hK K)
      ((repeat refine PWp.seq ?_); refine PWp.cond (by simp only [push_cast, seval, Nat.reduceEqDiff, Nat.reduceLeDiff, reduceCtorEq]; rfl) (fun hc => ?_) (fun hc => ?_))
      · have hf : okP n (-1) P = false := by
          rw [hN']
          simp only [Bool.or_eq_true, Bool.and_eq_true, Bool.not_eq_true', Bool.not_eq_false', Bool.or_eq_false_iff, Bool.and_eq_false_iff, decide_eq_true_eq, decide_eq_false_iff_not, beq_iff_eq, beq_eq_false_iff_ne, bne_iff_ne, bne_eq_false_iff_eq, ne_eq, Classical.not_not, Int.not_lt, Int.not_le, ge_iff_le, gt_iff_lt] at hc
          rcases hc with (h | h) | h
          · rw [decide_eq_false (by omega : ¬ last < p)]; rfl
          · rw [decide_eq_false (by omega : ¬ p < n), Bool.and_false]; rfl
          · rw [decide_eq_false (by omega : ¬ last < p)]; rfl
        have f1 := e1 _ hf
        have f2 := e2 _ hf
        rw [if_neg (by decide)] at f1 f2
        ((repeat refine PWp.seq ?_); refine PWp.region TT (by rfl) (fun K hK => ?_); simp only [push_cast, seval, Nat.reduceEqDiff, Nat.reduceLeDiff, reduceCtorEq]; (repeat refine sk ?_); refine hK _ ?_; clear hK K)
        ((repeat refine PWp.seq ?_); refine PWp.ret ?_)
        refine ⟨.inr rfl, by omega, _, [], ?_, rfl, rfl⟩
        rw [f1, f2]
        (simp [push_cast, -List.getD_eq_getElem?_getD])
      · simp only [Bool.or_eq_true, Bool.and_eq_true, Bool.not_eq_true', Bool.not_eq_false', Bool.or_eq_false_iff, Bool.and_eq_false_iff, decide_eq_true_eq, decide_eq_false_iff_not, beq_iff_eq, beq_eq_false_iff_ne, bne_iff_ne, bne_eq_false_iff_eq, ne_eq, Classical.not_not, Int.not_lt, Int.not_le, ge_iff_le, gt_iff_lt] at hc
        rw [decide_eq_true (by omega : last < p), decide_eq_true (by omega : p < n), Bool.true_and, Bool.true_and] at hN'
        ((repeat refine PWp.seq ?_); refine PWp.skip ?_)
        ((repeat refine PWp.seq ?_); refine PWp.region TT (by rfl) (fun K hK => ?_); simp only [push_cast, seval, Nat.reduceEqDiff, Nat.reduceLeDiff, reduceCtorEq, wrap64_id (n := (k : Int) + 1) (by omega) (by omega)]; (repeat refine sk ?_); refine hK _ ?_; clear hK K)
        refine ⟨_, _, ?_, ⟨k + 1, p, rfl, by omega, hN', by omega, hp p rfl (by omega), rfl⟩, Gh.le (by simp [push_cast, -List.getD_eq_getElem?_getD]) (by simp)⟩
        omega
    · have hk' : k = P.length := by simp at hc; omega
      subst hk'
      rw [List.drop_length] at hN
      have f1 := e1 _ hN
      have f2 := e2 _ hN
      have hok : okP n (-1) P = true := hN
      simp only [okP, if_true] at f1 f2
      have hget := okP_get hok
      clear hc hlast hl1
      (repeat refine PWp.seq ?_); refine PWp.exit (iteT rfl ?_)
      refine PWp.gh (st' := ⟨[(0, iN P), (1, iI n), (2, iI r)], [], 0⟩) (Gh.le (by simp [push_cast, -List.getD_eq_getElem?_getD]) (by simp)) ?_
      ((repeat refine PWp.seq ?_); refine PWp.region TT (by rfl) (fun K hK => ?_); simp only [push_cast, seval, Nat.reduceEqDiff, Nat.reduceLeDiff, reduceCtorEq]; (repeat refine sk ?_); refine hK _ ?_; clear hK K)
      refine PWp.gh (Gh.accm 9 0 (by rfl) (by rfl)) ?_
      ((repeat refine PWp.seq ?_); refine PWp.region TT (by rfl) (fun K hK => ?_); simp only [push_cast, seval, Nat.reduceEqDiff, Nat.reduceLeDiff, reduceCtorEq]; (repeat refine sk ?_); refine hK _ ?_; clear hK K)
      refine PWp.gh (st' := ⟨[(0, iN P), (1, iI n), (2, iI r), (9, .mrow 0), (10, iI 0)], [(0, .mrow 65 2 [])], 1⟩) (Gh.leR [1] (by simp [push_cast, -List.getD_eq_getElem?_getD]; try decide)) ?_
      ((repeat refine PWp.seq ?_); refine PWp.block ?_)
      refine PWp.loop (fun d st => ∃ (k : Nat), d = P.length - k ∧ k ≤ P.length ∧
        st = ⟨[(0, iN P), (1, iI n), (2, iI r), (9, .mrow 0), (10, iI k)], [(0, .mrow 65 2 ((arF n r (P.take k)).map encR))], 1⟩) _ _ ⟨0, rfl, Nat.zero_le _, rfl⟩ (Gh.le (by simp [push_cast, -List.getD_eq_getElem?_getD, arF]) (by simp)) ?_
      rintro d st ⟨k, rfl, hk, rfl⟩
      ((repeat refine PWp.seq ?_); refine PWp.region TT (by rfl) (fun K hK => ?_); simp only [push_cast, seval, Nat.reduceEqDiff, Nat.reduceLeDiff, reduceCtorEq]; (repeat refine sk ?_); refine hK _ ?_; clear hK K)
      ((repeat refine PWp.seq ?_); refine PWp.cond (by simp only [push_cast, seval, Nat.reduceEqDiff, Nat.reduceLeDiff, reduceCtorEq]; rfl) (fun hc => ?_) (fun hc => ?_))
      · have hlt : k < P.length := by simp at hc; omega
        clear hc
        have hs := arF_succ n r P hlt
        obtain ⟨g1, g2, g3⟩ := hget k hlt
        have hg : (P.map encI).getD k .any = encI (P.getD k default) := getD_map hlt
        have hbl := arF_bd (n := n) (r := r) k hk
        have hll := arF_len n r P k hk
        generalize P.getD k default = p at *
        have hab : 0 ≤ aR n r p ∧ aR n r p < bR n r p ∧ bR n r p ≤ n ∧ (∀ x, p - r ≤ x → x ≤ p + r → 0 ≤ x → x < n → aR n r p ≤ x ∧ x < bR n r p) ∧ p - r ≤ aR n r p ∧ bR n r p ≤ p + r + 1 := by
          unfold aR bR mx mn
          refine ⟨by split <;> omega, by split <;> split <;> omega, by split <;> omega, fun x h1 h2 h3 h4 => ⟨by split <;> omega, by split <;> omega⟩, by split <;> omega, by split <;> omega⟩
        generalize aR n r p = a at *
        generalize bR n r p = b at *
        obtain ⟨q1, q2, q3, q4, q5, q6⟩ := hab
        generalize arF n r (P.take k) = L0 at *
        have w1 := wrap64_id (n := p - r) (by omega) (by omega)
        have w2 := wrap64_id (n := p + r) (by omega) (by omega)
        ((repeat refine PWp.seq ?_); refine PWp.skip ?_)
        ((repeat refine PWp.seq ?_); refine PWp.block ?_)
        ((repeat refine PWp.seq ?_); refine PWp.region TT (by rfl) (fun K hK => ?_); simp only [push_cast, seval, Nat.reduceEqDiff, Nat.reduceLeDiff, reduceCtorEq, hg, w1]; (repeat refine sk ?_); refine hK _ ?_; clear hK K)
        ((repeat refine PWp.seq ?_); refine PWp.block ?_)
        refine PWp.loop (fun d st => ∃ x : Int, d = (p + r + 1 - x).toNat ∧ p - r ≤ x ∧ x ≤ p + r + 1 ∧
          st = ⟨[(0, iN P), (1, iI n), (2, iI r), (9, .mrow 0), (10, iI k), (11, iI x)], [(0, .mrow 65 2 ((extR L0 a (mn b x)).map encR))], 1⟩) _ _ ⟨p - r, rfl, by omega, by omega, rfl⟩ (Gh.le (by simp [push_cast, -List.getD_eq_getElem?_getD, show extR L0 a (mn b (p - r)) = L0 from by unfold extR mn; rw [if_pos (by split <;> omega)]]) (by simp)) ?_
        rintro d st ⟨x, rfl, hx1, hx2, rfl⟩
        ((repeat refine PWp.seq ?_); refine PWp.region TT (by rfl) (fun K hK => ?_); simp only [push_cast, seval, Nat.reduceEqDiff, Nat.reduceLeDiff, reduceCtorEq, hg, w2]; (repeat refine sk ?_); refine hK _ ?_; clear hK K)
        ((repeat refine PWp.seq ?_); refine PWp.cond (by simp only [push_cast, seval, Nat.reduceEqDiff, Nat.reduceLeDiff, reduceCtorEq]; rfl) (fun hc => ?_) (fun hc => ?_))
        · have hx3 : x ≤ p + r := by have := of_decide_eq_true hc; omega
          clear hc
          have w3 := wrap64_id (n := x + 1) (by omega) (by omega)
          ((repeat refine PWp.seq ?_); refine PWp.skip ?_)
          ((repeat refine PWp.seq ?_); refine PWp.block ?_)
          ((repeat refine PWp.seq ?_); refine PWp.region TT (by rfl) (fun K hK => ?_); simp only [push_cast, seval, Nat.reduceEqDiff, Nat.reduceLeDiff, reduceCtorEq]; (repeat refine sk ?_); refine hK _ ?_; clear hK K)
          ((repeat refine PWp.seq ?_); refine PWp.cond (by simp only [push_cast, seval, Nat.reduceEqDiff, Nat.reduceLeDiff, reduceCtorEq]; rfl) (fun hc => ?_) (fun hc => ?_))
          · have hsame : extR L0 a (mn b (x + 1)) = extR L0 a (mn b x) := by
              simp only [Bool.or_eq_true, Bool.and_eq_true, Bool.not_eq_true', Bool.not_eq_false', Bool.or_eq_false_iff, Bool.and_eq_false_iff, decide_eq_true_eq, decide_eq_false_iff_not, beq_iff_eq, beq_eq_false_iff_ne, bne_iff_ne, bne_eq_false_iff_eq, ne_eq, Classical.not_not, Int.not_lt, Int.not_le, ge_iff_le, gt_iff_lt] at hc
              rcases hc with h | h
              · unfold extR
                rw [if_pos (by unfold mn; split <;> omega), if_pos (by unfold mn; split <;> omega)]
              · rw [mn_neg (by omega), mn_neg (by omega)]
            (repeat refine PWp.seq ?_); refine PWp.exit (iteT rfl ?_)
            ((repeat refine PWp.seq ?_); refine PWp.region TT (by rfl) (fun K hK => ?_); simp only [push_cast, seval, Nat.reduceEqDiff, Nat.reduceLeDiff, reduceCtorEq, w3]; (repeat refine sk ?_); refine hK _ ?_; clear hK K)
            refine ⟨_, _, ?_, ⟨x + 1, rfl, by omega, by omega, rfl⟩, Gh.le (by simp [push_cast, -List.getD_eq_getElem?_getD, hsame]) (by simp)⟩
            omega
          · simp only [Bool.or_eq_true, Bool.and_eq_true, Bool.not_eq_true', Bool.not_eq_false', Bool.or_eq_false_iff, Bool.and_eq_false_iff, decide_eq_true_eq, decide_eq_false_iff_not, beq_iff_eq, beq_eq_false_iff_ne, bne_iff_ne, bne_eq_false_iff_eq, ne_eq, Classical.not_not, Int.not_lt, Int.not_le, ge_iff_le, gt_iff_lt] at hc
            obtain ⟨x3, x4⟩ := q4 x hx1 hx3 (by omega) (by omega)
            have hst := ext_step L0 a x x3
            have em : mn b x = x := mn_pos x4
            have em1 : mn b (x + 1) = x + 1 := by unfold mn; split <;> omega
            have hbm := ext_bd hbl q1 (by omega : x ≤ n)
            have hlm := ext_len L0 a x
            rw [em]
            clear hc
            ((repeat refine PWp.seq ?_); refine PWp.skip ?_)
            have hbig : extR L0 a (mn b (x + 1)) = extR L0 a (x + 1) := by rw [em1]
            rw [← hst] at hbig
            generalize extR L0 a x = M at *
            cases hM : M.getLast? with
            | none =>
              have hn : M = [] := by simpa using hM
              subst hn
              have hnew : stR [] x = [(x, 1)] := rfl
              ((repeat refine PWp.seq ?_); refine PWp.region TT (by rfl) (fun K hK => ?_); simp only [push_cast, seval, Nat.reduceEqDiff, Nat.reduceLeDiff, reduceCtorEq]; (repeat refine sk ?_); refine hK _ ?_; clear hK K)
              ((repeat refine PWp.seq ?_); refine PWp.cond (by simp only [push_cast, seval, Nat.reduceEqDiff, Nat.reduceLeDiff, reduceCtorEq]; rfl) (fun hc => ?_) (fun hc => ?_))
              · ((repeat refine PWp.seq ?_); refine PWp.region TT (by rfl) (fun K hK => ?_); simp only [push_cast, seval, Nat.reduceEqDiff, Nat.reduceLeDiff, reduceCtorEq]; (repeat refine sk ?_); refine hK _ ?_; clear hK K)
                (repeat refine PWp.seq ?_); refine PWp.exit (iteT rfl ?_)
                ((repeat refine PWp.seq ?_); refine PWp.region TT (by rfl) (fun K hK => ?_); simp only [push_cast, seval, Nat.reduceEqDiff, Nat.reduceLeDiff, reduceCtorEq, w3]; (repeat refine sk ?_); refine hK _ ?_; clear hK K)
                refine ⟨_, _, ?_, ⟨x + 1, rfl, by omega, by omega, rfl⟩, Gh.leR [1] (by simp [push_cast, -List.getD_eq_getElem?_getD, hbig, hnew]; try decide)⟩
                omega
              · cases hc
            | some y =>
              obtain ⟨hlg, hlp⟩ := last_get hM
              have hy := hbm y (List.mem_of_getLast? hM)
              have hse := fun z => encR_set (z := z) hM
              have t2 : ((M.length : Int) - 1).toNat = M.length - 1 := by omega
              have hne : ((M.length : Int) == 0) = false := beq_eq_false_iff_ne.2 (by omega)
              have w4 := wrap64_id (n := (M.length : Int) - 1) (by omega) (by omega)
              have w5 := wrap64_id (n := y.1 + y.2) (by omega) (by omega)
              have w6 := wrap64_id (n := y.2 + 1) (by omega) (by omega)
              have hnew : stR M x = if x = y.1 + y.2 then M.dropLast ++ [(y.1, y.2 + 1)] else if y.1 + y.2 < x then M ++ [(x, 1)] else M := by unfold stR; rw [hM]
              ((repeat refine PWp.seq ?_); refine PWp.region TT (by rfl) (fun K hK => ?_); simp only [push_cast, seval, Nat.reduceEqDiff, Nat.reduceLeDiff, reduceCtorEq, hne]; (repeat refine sk ?_); refine hK _ ?_; clear hK K)
              ((repeat refine PWp.seq ?_); refine PWp.cond (by simp only [push_cast, seval, Nat.reduceEqDiff, Nat.reduceLeDiff, reduceCtorEq]; rfl) (fun hc => ?_) (fun hc => ?_))
              · cases hc
              · clear hc
                ((repeat refine PWp.seq ?_); refine PWp.skip ?_)
                ((repeat refine PWp.seq ?_); refine PWp.region TT (by rfl) (fun K hK => ?_); simp only [push_cast, seval, Nat.reduceEqDiff, Nat.reduceLeDiff, reduceCtorEq, hlg, t2, w4]; (repeat refine sk ?_); refine hK _ ?_; clear hK K)
                ((repeat refine PWp.seq ?_); refine PWp.region TT (by rfl) (fun K hK => ?_); simp only [push_cast, seval, Nat.reduceEqDiff, Nat.reduceLeDiff, reduceCtorEq, w5]; (repeat refine sk ?_); refine hK _ ?_; clear hK K)
                ((repeat refine PWp.seq ?_); refine PWp.cond (by simp only [push_cast, seval, Nat.reduceEqDiff, Nat.reduceLeDiff, reduceCtorEq]; rfl) (fun hc => ?_) (fun hc => ?_))
                · have hxe : x = y.1 + y.2 := beq_iff_eq.1 hc
                  rw [if_pos hxe] at hnew
                  have hsz := hse (y.1, y.2 + 1)
                  simp only [encR] at hsz
                  clear hc
                  ((repeat refine PWp.seq ?_); refine PWp.region TT (by rfl) (fun K hK => ?_); simp only [push_cast, seval, Nat.reduceEqDiff, Nat.reduceLeDiff, reduceCtorEq, hlg, t2, w4, w6, hsz]; (repeat refine sk ?_); refine hK _ ?_; clear hK K)
                  ((repeat refine PWp.seq ?_); refine PWp.region TT (by rfl) (fun K hK => ?_); simp only [push_cast, seval, Nat.reduceEqDiff, Nat.reduceLeDiff, reduceCtorEq, w3]; (repeat refine sk ?_); refine hK _ ?_; clear hK K)
                  refine ⟨_, _, ?_, ⟨x + 1, rfl, by omega, by omega, rfl⟩, Gh.le (by simp [push_cast, -List.getD_eq_getElem?_getD, hbig, hnew]) (by simp)⟩
                  omega
                · have hxe : x ≠ y.1 + y.2 := beq_eq_false_iff_ne.1 hc
                  rw [if_neg hxe] at hnew
                  clear hc
                  ((repeat refine PWp.seq ?_); refine PWp.region TT (by rfl) (fun K hK => ?_); simp only [push_cast, seval, Nat.reduceEqDiff, Nat.reduceLeDiff, reduceCtorEq, w5]; (repeat refine sk ?_); refine hK _ ?_; clear hK K)
                  ((repeat refine PWp.seq ?_); refine PWp.cond (by simp only [push_cast, seval, Nat.reduceEqDiff, Nat.reduceLeDiff, reduceCtorEq]; rfl) (fun hc => ?_) (fun hc => ?_))
                  · have hxg : y.1 + y.2 < x := by have := of_decide_eq_true hc; omega
                    rw [if_pos hxg] at hnew
                    clear hc
                    ((repeat refine PWp.seq ?_); refine PWp.region TT (by rfl) (fun K hK => ?_); simp only [push_cast, seval, Nat.reduceEqDiff, Nat.reduceLeDiff, reduceCtorEq]; (repeat refine sk ?_); refine hK _ ?_; clear hK K)
                    ((repeat refine PWp.seq ?_); refine PWp.region TT (by rfl) (fun K hK => ?_); simp only [push_cast, seval, Nat.reduceEqDiff, Nat.reduceLeDiff, reduceCtorEq, w3]; (repeat refine sk ?_); refine hK _ ?_; clear hK K)
                    refine ⟨_, _, ?_, ⟨x + 1, rfl, by omega, by omega, rfl⟩, Gh.leR [2] (by simp [push_cast, -List.getD_eq_getElem?_getD, hbig, hnew]; try decide)⟩
                    omega
                  · have hxg : ¬ y.1 + y.2 < x := by have := of_decide_eq_false hc; omega
                    rw [if_neg hxg] at hnew
                    clear hc
                    ((repeat refine PWp.seq ?_); refine PWp.skip ?_)
                    ((repeat refine PWp.seq ?_); refine PWp.region TT (by rfl) (fun K hK => ?_); simp only [push_cast, seval, Nat.reduceEqDiff, Nat.reduceLeDiff, reduceCtorEq, w3]; (repeat refine sk ?_); refine hK _ ?_; clear hK K)
                    refine ⟨_, _, ?_, ⟨x + 1, rfl, by omega, by omega, rfl⟩, Gh.le (by simp [push_cast, -List.getD_eq_getElem?_getD, hbig, hnew]) (by simp)⟩
                    omega
        · have hx3 : x = p + r + 1 := by have := of_decide_eq_false hc; omega
          subst hx3
          clear hc
          have em : mn b (p + r + 1) = b := mn_neg (by omega)
          rw [em, ← hs]
          (repeat refine PWp.seq ?_); refine PWp.exit (iteT rfl ?_)
          ((repeat refine PWp.seq ?_); refine PWp.region TT (by rfl) (fun K hK => ?_); simp only [push_cast, seval, Nat.reduceEqDiff, Nat.reduceLeDiff, reduceCtorEq, wrap64_id (n := (k : Int) + 1) (by omega) (by omega)]; (repeat refine sk ?_); refine hK _ ?_; clear hK K)
          refine ⟨_, _, ?_, ⟨k + 1, rfl, by omega, rfl⟩, Gh.le (by simp [push_cast, -List.getD_eq_getElem?_getD]) (by simp)⟩
          omega
      · have hk' : k = P.length := by simp at hc; omega
        subst hk'
        rw [List.take_length]
        (repeat refine PWp.seq ?_); refine PWp.exit (iteT rfl ?_)
        refine PWp.gh (Gh.freeze 0 (by rfl)) ?_
        ((repeat refine PWp.seq ?_); refine PWp.region TT (by rfl) (fun K hK => ?_); simp only [push_cast, seval, Nat.reduceEqDiff, Nat.reduceLeDiff, reduceCtorEq]; (repeat refine sk ?_); refine hK _ ?_; clear hK K)
        ((repeat refine PWp.seq ?_); refine PWp.ret ?_)
        refine ⟨.inr rfl, by omega, _, [], ?_, rfl, rfl⟩
        rw [f1, f2]
        (simp [push_cast, -List.getD_eq_getElem?_getD])
theorem lists_eq {α : Type} [Inhabited α] {a b : List α} (hl : a.length = b.length) (h : ∀ i, i < a.length → a.getD i default = b.getD i default) : a = b := by
  apply List.ext_getElem hl
  intro i h1 h2
  have := h i h1
  rw [List.getD_eq_getElem?_getD, List.getD_eq_getElem?_getD, List.getElem?_eq_getElem h1, List.getElem?_eq_getElem h2] at this
  exact this
theorem rgEq {a b : Rg} (h : a.1 = b.1 ∧ a.2 = b.2) : a = b := Prod.ext h.1 h.2
theorem ref_Same (a b : List Rg) (ha : a.length ≤ 1000000) : PC Try.prog 18 [iR a, iR b] [] 0 0 (fun t obs => t = iB (decide (a = b)) ∧ obs = []) := by
  refine PC.body [4] Try.func18 rfl (by rfl) (Nat.le_of_ble_eq_true (by rfl)) rfl ?_; simp only [enumA]
  ((repeat refine PWp.seq ?_); refine PWp.region TT (by rfl) (fun K hK => ?_); simp only [push_cast, seval, Nat.reduceEqDiff, Nat.reduceLeDiff, reduceCtorEq]; (repeat refine sk ?_); refine hK _ ?_; clear hK K)
  ((repeat refine PWp.seq ?_); refine PWp.region TT (by rfl) (fun K hK => ?_); simp only [push_cast, seval, Nat.reduceEqDiff, Nat.reduceLeDiff, reduceCtorEq]; (repeat refine sk ?_); refine hK _ ?_; clear hK K)
  ((repeat refine PWp.seq ?_); refine PWp.cond (by simp only [push_cast, seval, Nat.reduceEqDiff, Nat.reduceLeDiff, reduceCtorEq]; rfl) (fun hc => ?_) (fun hc => ?_))
  · have e : decide (a = b) = false := decide_eq_false (fun h => by
      subst h
      simp at hc)
    ((repeat refine PWp.seq ?_); refine PWp.region TT (by rfl) (fun K hK => ?_); simp only [push_cast, seval, Nat.reduceEqDiff, Nat.reduceLeDiff, reduceCtorEq]; (repeat refine sk ?_); refine hK _ ?_; clear hK K)
    ((repeat refine PWp.seq ?_); refine PWp.ret ?_)
    refine ⟨.inr rfl, by omega, _, [], ?_, rfl, rfl⟩
    rw [e]
    (simp [push_cast, -List.getD_eq_getElem?_getD])
  · have hl : a.length = b.length := by have := bne_eq_false_iff_eq.1 hc; omega
    clear hc
    ((repeat refine PWp.seq ?_); refine PWp.skip ?_)
    ((repeat refine PWp.seq ?_); refine PWp.region TT (by rfl) (fun K hK => ?_); simp only [push_cast, seval, Nat.reduceEqDiff, Nat.reduceLeDiff, reduceCtorEq]; (repeat refine sk ?_); refine hK _ ?_; clear hK K)
    ((repeat refine PWp.seq ?_); refine PWp.block ?_)
    refine PWp.loop (fun c st => ∃ k : Nat, c = a.length - k ∧ k ≤ a.length ∧ (∀ i < k, a.getD i default = b.getD i default) ∧
      st = ⟨[(0, iR a), (1, iR b), (5, iI k)], [], 0⟩) _ _ ⟨0, rfl, Nat.zero_le _, by simp, rfl⟩ (Gh.le (by simp [push_cast, -List.getD_eq_getElem?_getD]) (by simp)) ?_
    rintro c st ⟨k, rfl, hk, hf, rfl⟩
    ((repeat refine PWp.seq ?_); refine PWp.region TT (by rfl) (fun K hK => ?_); simp only [push_cast, seval, Nat.reduceEqDiff, Nat.reduceLeDiff, reduceCtorEq]; (repeat refine sk ?_); refine hK _ ?_; clear hK K)
    ((repeat refine PWp.seq ?_); refine PWp.cond (by simp only [push_cast, seval, Nat.reduceEqDiff, Nat.reduceLeDiff, reduceCtorEq]; rfl) (fun hc => ?_) (fun hc => ?_))
    · have hlt : k < a.length := by simpa using hc
      clear hc
      ((repeat refine PWp.seq ?_); refine PWp.skip ?_)
      ((repeat refine PWp.seq ?_); refine PWp.block ?_)
      ((repeat refine PWp.seq ?_); refine PWp.draw TT (by kernel_rfl) (by kernel_rfl) (by rfl) (by rfl) (fun K hK => ?_); simp only [push_cast, seval, Nat.reduceEqDiff, Nat.reduceLeDiff, reduceCtorEq, getD_map hlt, getD_map (show k < b.length by omega)]; (repeat refine sk ?_); refine hK _ ?_; clear hK K)
      ((repeat refine PWp.seq ?_); refine PWp.cond (by simp only [push_cast, seval, Nat.reduceEqDiff, Nat.reduceLeDiff, reduceCtorEq]; rfl) (fun hc => ?_) (fun hc => ?_))
      · have e : decide (a = b) = false := decide_eq_false (fun h => by
          subst h
          simp at hc)
        ((repeat refine PWp.seq ?_); refine PWp.region TT (by rfl) (fun K hK => ?_); simp only [push_cast, seval, Nat.reduceEqDiff, Nat.reduceLeDiff, reduceCtorEq]; (repeat refine sk ?_); refine hK _ ?_; clear hK K)
        ((repeat refine PWp.seq ?_); refine PWp.ret ?_)
        refine ⟨.inr rfl, by omega, _, [], ?_, rfl, rfl⟩
        rw [e]
        (simp [push_cast, -List.getD_eq_getElem?_getD])
      · have he : a.getD k default = b.getD k default := rgEq (by simp only [Bool.or_eq_true, Bool.and_eq_true, Bool.not_eq_true', Bool.not_eq_false', Bool.or_eq_false_iff, Bool.and_eq_false_iff, decide_eq_true_eq, decide_eq_false_iff_not, beq_iff_eq, beq_eq_false_iff_ne, bne_iff_ne, bne_eq_false_iff_eq, ne_eq, Classical.not_not, Int.not_lt, Int.not_le, ge_iff_le, gt_iff_lt] at hc; exact hc)
        ((repeat refine PWp.seq ?_); refine PWp.skip ?_)
        ((repeat refine PWp.seq ?_); refine PWp.region TT (by rfl) (fun K hK => ?_); simp only [push_cast, seval, Nat.reduceEqDiff, Nat.reduceLeDiff, reduceCtorEq, wrap64_id (n := (k : Int) + 1) (by omega) (by omega)]; (repeat refine sk ?_); refine hK _ ?_; clear hK K)
        refine ⟨_, _, ?_, ⟨k + 1, rfl, by omega, fun i hi => ?_, rfl⟩, Gh.le (by simp [push_cast, -List.getD_eq_getElem?_getD]) (by simp)⟩
        · omega
        · by_cases e : i = k
          · subst e; exact he
          · exact hf i (by omega)
    · have hk' : k = a.length := by simp at hc; omega
      subst hk'
      have e : decide (a = b) = true := decide_eq_true (lists_eq hl hf)
      (repeat refine PWp.seq ?_); refine PWp.exit (iteT rfl ?_)
      ((repeat refine PWp.seq ?_); refine PWp.region TT (by rfl) (fun K hK => ?_); simp only [push_cast, seval, Nat.reduceEqDiff, Nat.reduceLeDiff, reduceCtorEq]; (repeat refine sk ?_); refine hK _ ?_; clear hK K)
      ((repeat refine PWp.seq ?_); refine PWp.ret ?_)
      refine ⟨.inr rfl, by omega, _, [], ?_, rfl, rfl⟩
      rw [e]
      (simp [push_cast, -List.getD_eq_getElem?_getD])
theorem arL_len (n r : Int) (P : List Int) : (arL n r P).length ≤ P.length := by
  unfold arL
  split
  · simp
  · split
    · have := arF_len n r P P.length (Nat.le_refl _)
      rwa [List.take_length] at this
    · simp
theorem FindAround_walk (P : List Int) (n r : Int) : PC Try.prog 6 [iN P, iI n, iI r] [] 0 900 (fun t obs => t = iB true ∧ obs = []) := by
  have h1 : 0 ≤ mn (P.length : Int) 60 := by unfold mn; split <;> omega
  have h2 : mn (P.length : Int) 60 ≤ P.length := by unfold mn; split <;> omega
  have e1 : (P.map encI).take (mn (P.length : Int) 60).toNat = (P.take 60).map encI := by
    rw [← List.map_take]
    have := mn_takeN P 60
    exact congrArg _ this
  refine PC.body [6] Try.func6 rfl (by rfl) (Nat.le_of_ble_eq_true (by rfl)) rfl ?_; simp only [enumA]
  ((repeat refine PWp.seq ?_); refine PWp.region TT (by rfl) (fun K hK => ?_); simp only [push_cast, seval, Nat.reduceEqDiff, Nat.reduceLeDiff, reduceCtorEq]; (repeat refine sk ?_); refine hK _ ?_; clear hK K)
  ((repeat refine PWp.seq ?_); refine PWp.region TT (by rfl) (fun K hK => ?_); simp only [push_cast, seval, Nat.reduceEqDiff, Nat.reduceLeDiff, reduceCtorEq, e1]; (repeat refine sk ?_); refine hK _ ?_; clear hK K)
  clear h1 h2 e1
  have hP : (P.take 60).length ≤ 60 := by rw [List.length_take]; omega
  generalize P.take 60 = P at *
  ((repeat refine PWp.seq ?_); refine PWp.region TT (by rfl) (fun K hK => ?_); simp only [push_cast, seval, Nat.reduceEqDiff, Nat.reduceLeDiff, reduceCtorEq])
  ((repeat refine sk ?_); refine PCall.use (find_Around P n r (by omega)) [] rfl (by simp [push_cast]) (by simp) (by simp [push_cast]) (by simp [push_cast]) (by simp [push_cast]) (by simp [push_cast]) ?_)
  rintro _ _ ⟨rfl, rfl⟩
  (simp only [push_cast, seval, Nat.reduceEqDiff, Nat.reduceLeDiff, reduceCtorEq]; (repeat refine sk ?_); refine hK _ ?_; clear hK K)
  ((repeat refine PWp.seq ?_); refine PWp.region TT (by rfl) (fun K hK => ?_); simp only [push_cast, seval, Nat.reduceEqDiff, Nat.reduceLeDiff, reduceCtorEq])
  ((repeat refine sk ?_); refine PCall.use (ref_Around P n r (by omega)) [] rfl (by simp [push_cast]) (by simp) (by simp [push_cast]) (by simp [push_cast]) (by simp [push_cast]) (by simp [push_cast]) ?_)
  rintro _ _ ⟨rfl, rfl⟩
  (simp only [push_cast, seval, Nat.reduceEqDiff, Nat.reduceLeDiff, reduceCtorEq]; (repeat refine sk ?_); refine hK _ ?_; clear hK K)
  have hll := arL_len n r P
  have hsame : decide (arL n r P = arL n r P) = true := decide_eq_true rfl
  ((repeat refine PWp.seq ?_); refine PWp.region TT (by rfl) (fun K hK => ?_); simp only [push_cast, seval, Nat.reduceEqDiff, Nat.reduceLeDiff, reduceCtorEq])
  ((repeat refine sk ?_); refine PCall.use (live34) [] rfl (by simp [push_cast]) (by simp) (by simp [push_cast]) (by simp [push_cast]) (by simp [push_cast]) (by simp [push_cast]) ?_)
  rintro _ _ ⟨rfl, rfl⟩
  (simp only [push_cast, seval, Nat.reduceEqDiff, Nat.reduceLeDiff, reduceCtorEq])
  ((repeat refine sk ?_); refine PCall.use (ref_Same (arL n r P) (arL n r P) (by omega)) [] rfl (by simp [push_cast]) (by simp) (by simp [push_cast]) (by simp [push_cast]) (by simp [push_cast]) (by simp [push_cast]) ?_)
  rintro _ _ ⟨rfl, rfl⟩
  rw [hsame]
  (simp only [push_cast, seval, Nat.reduceEqDiff, Nat.reduceLeDiff, reduceCtorEq, beq_self_eq_true]; (repeat refine sk ?_); refine hK _ ?_; clear hK K)
  ((repeat refine PWp.seq ?_); refine PWp.ret ?_)
  refine ⟨.inr rfl, by omega, _, [], ?_, rfl, rfl⟩
  (simp [push_cast, -List.getD_eq_getElem?_getD])
end Go.Proofs.Ytjlnialglahdoaa
