/- lift.behind: the new items, by the place that they stand behind; and slices.Clone of items. -/
import Derived.Test.YtanopjcfackblaaE3
namespace Go.Proofs.Ytanopjcfackblaa
open Go.PL
set_option maxRecDepth 100000
set_option linter.unusedSimpArgs false
set_option linter.unusedVariables false
theorem Clone_items (l : List It) (hl : l.length ≤ 1000000) : PC Try.prog 20 [iIt l] [] 0 1
    (fun t obs => t = .mrow 0 ∧ obs = [(0, .mrow 41 6 (l.map encIt))]) := by
  refine PC.body [2] Try.func20 rfl (by rfl) (Nat.le_of_ble_eq_true (by rfl)) rfl ?_; simp only [enumA]
  refine PWp.nilcase 0 (by rfl) (fun hx => ?_) ?_
  · have hl0 : l = [] := by simpa using hx
    subst hl0
    ((repeat refine PWp.seq ?_); refine PWp.region TT (by rfl) (fun K hK => ?_); simp only [push_cast, seval, Nat.reduceEqDiff, Nat.reduceLeDiff, reduceCtorEq]; (repeat refine sk ?_); refine hK _ ?_; clear hK K)
    ((repeat refine PWp.seq ?_); refine PWp.region TT (by rfl) (fun K hK => ?_); simp only [push_cast, seval, Nat.reduceEqDiff, Nat.reduceLeDiff, reduceCtorEq]; (repeat refine sk ?_); refine hK _ ?_; clear hK K)
    ((repeat refine PWp.seq ?_); refine PWp.cond (by simp only [push_cast, seval, Nat.reduceEqDiff, Nat.reduceLeDiff, reduceCtorEq]; rfl) (fun hc => ?_) (fun hc => ?_))
    · ((repeat refine PWp.seq ?_); refine PWp.region TT (by rfl) (fun K hK => ?_); simp only [push_cast, seval, Nat.reduceEqDiff, Nat.reduceLeDiff, reduceCtorEq]; (repeat refine sk ?_); refine hK _ ?_; clear hK K)
      refine PWp.gh (Gh.mrow 2 41 6 (by rfl)) ?_
      ((repeat refine PWp.seq ?_); refine PWp.ret ?_)
      refine ⟨.inr rfl, by omega, _, _, ?_, rfl, rfl⟩
      (simp [push_cast, -List.getD_eq_getElem?_getD])
    · simp at hc
  · ((repeat refine PWp.seq ?_); refine PWp.region TT (by rfl) (fun K hK => ?_); simp only [push_cast, seval, Nat.reduceEqDiff, Nat.reduceLeDiff, reduceCtorEq]; (repeat refine sk ?_); refine hK _ ?_; clear hK K)
    ((repeat refine PWp.seq ?_); refine PWp.region TT (by rfl) (fun K hK => ?_); simp only [push_cast, seval, Nat.reduceEqDiff, Nat.reduceLeDiff, reduceCtorEq]; (repeat refine sk ?_); refine hK _ ?_; clear hK K)
    ((repeat refine PWp.seq ?_); refine PWp.cond (by simp only [push_cast, seval, Nat.reduceEqDiff, Nat.reduceLeDiff, reduceCtorEq]; rfl) (fun hc => ?_) (fun hc => ?_))
    · simp at hc
    · have hli := lensIt l
      ((repeat refine PWp.seq ?_); refine PWp.skip ?_)
      ((repeat refine PWp.seq ?_); refine PWp.region2 1 TT (by rfl) (by rfl) (fun K hK => ?_); simp only [push_cast, seval, Nat.reduceEqDiff, Nat.reduceLeDiff, reduceCtorEq, List.take_succ_cons, List.take_zero, List.drop_succ_cons, List.drop_zero]; (repeat refine sk ?_))
      refine ⟨_, Gh.accm 5 0 (by rfl) (by rfl), ?_⟩
      simp only [push_cast, seval, Nat.reduceEqDiff, Nat.reduceLeDiff, reduceCtorEq, List.nil_append, hli]
      ((repeat refine sk ?_); refine hK _ ?_; clear hK K)
      refine PWp.gh (st' := ⟨[(2, .mrow 0)], [(0, .mrow 41 6 (l.map encIt))], 1⟩) (Gh.leR [2] (by simp [push_cast, -List.getD_eq_getElem?_getD]; try decide)) ?_
      ((repeat refine PWp.seq ?_); refine PWp.ret ?_)
      refine ⟨.inr rfl, by omega, _, _, ?_, rfl, rfl⟩
      (simp [push_cast, -List.getD_eq_getElem?_getD])
/-! ### New items -/
attribute [push_cast] mapPut mapFind mapDel
def oldP (p : List Int) (x : Md) : Int := p.getD x.i.toNat default
def newIt (s : Lb) (x : Md) (n : Int) : It := ⟨n, s, false, x.x⟩
def clo (a : Int) : List It → List (Int × List It)
  | [] => []
  | c :: cur => [(a, c :: cur)]
def bhF (p : List Int) (s : Lb) : List Md → Int → List It → Int → List (Int × List It)
  | [], a, cur, _ => clo a cur
  | x :: m, a, cur, n => if x.o then clo a cur ++ bhF p s m (oldP p x) [] n else bhF p s m a (cur ++ [newIt s x n]) (n + 1)
def encG (gs : List (Int × List It)) : List (Int × TV) := gs.map fun g => (g.1, iIt g.2)
theorem encG_app (a b : List (Int × List It)) : encG (a ++ b) = encG a ++ encG b := by simp [encG]
theorem encG_one (a : Int) (c : List It) : encG [(a, c)] = [(a, iIt c)] := rfl
theorem clo_ne {a : Int} {cur : List It} (h : cur ≠ []) : clo a cur = [(a, cur)] := by
  cases cur with
  | nil => exact absurd rfl h
  | cons => rfl
theorem find_app {d : List (Int × List It)} {a : Int} (h : ∀ g ∈ d, g.1 < a) (r : List (Int × TV)) : mapFind (encG d ++ r) a = mapFind r a := by
  induction d with
  | nil => rfl
  | cons g d ih =>
    have h1 := h g (List.mem_cons_self ..)
    have hb : (a == g.1) = false := beq_eq_false_iff_ne.2 (by omega)
    have := ih (fun x hx => h x (List.mem_cons_of_mem _ hx))
    simp only [encG, List.map_cons, List.cons_append, mapFind, hb, cond_false] at this ⊢
    exact this
theorem put_app {d : List (Int × List It)} {a : Int} (h : ∀ g ∈ d, g.1 < a) (r : List (Int × TV)) (t : TV) : mapPut (encG d ++ r) a t = encG d ++ mapPut r a t := by
  induction d with
  | nil => rfl
  | cons g d ih =>
    have h1 := h g (List.mem_cons_self ..)
    have hb : (a == g.1) = false := beq_eq_false_iff_ne.2 (by omega)
    have := ih (fun x hx => h x (List.mem_cons_of_mem _ hx))
    simp only [encG, List.map_cons, List.cons_append, mapPut, hb, cond_false] at this ⊢
    rw [this]
theorem demE_app {α : Type} (S : List Nat) (a b : List (α × TV)) : demE S (a ++ b) = demE S a ++ demE S b := by
  induction a with
  | nil => rfl
  | cons x a ih => obtain ⟨i, t⟩ := x; simp [demE, ih]
theorem demE_encG (S : List Nat) (d : List (Int × List It)) : demE S (encG d) = encG d := by
  induction d with
  | nil => rfl
  | cons x a ih => simp only [encG, List.map_cons, demE] at ih ⊢; rw [ih]; rfl
theorem renE_encG (f : Nat → Nat) (d : List (Int × List It)) : renE f (encG d) = encG d := by
  induction d with
  | nil => rfl
  | cons x a ih => simp only [encG, List.map_cons, renE] at ih ⊢; rw [ih]; rfl
attribute [push_cast] renE_encG demE_encG
theorem mapsle_app (n : Nat) (d : List (Int × List It)) (r r' : List (Int × TV)) : mapsle n (encG d ++ r) (encG d ++ r') ↔ mapsle n r r' := by
  induction d with
  | nil => rfl
  | cons x a ih =>
    simp only [encG, List.map_cons, List.cons_append, mapsle] at ih ⊢
    rw [ih]
    exact ⟨fun h => h.2.2.2, fun h => ⟨trivial, .inl rfl, rfl, h⟩⟩
theorem mapsle_encG (n : Nat) (d : List (Int × List It)) : mapsle n (encG d) (encG d) := by
  have := mapsle_app n d [] []
  simp only [List.append_nil] at this
  exact this.2 trivial
theorem mapsleR_app (σ : List Nat) (d : List (Int × List It)) (r r' : List (Int × TV)) : mapsleR σ (encG d ++ r) (encG d ++ r') ↔ mapsleR σ r r' := by
  induction d with
  | nil => rfl
  | cons x a ih =>
    simp only [encG, List.map_cons, List.cons_append, mapsleR] at ih ⊢
    rw [ih]
    exact ⟨fun h => h.2.2.2, fun h => ⟨trivial, .inl rfl, rfl, h⟩⟩
theorem mapsleR_encG (σ : List Nat) (d : List (Int × List It)) : mapsleR σ (encG d) (encG d) := by
  have := mapsleR_app σ d [] []
  simp only [List.append_nil] at this
  exact this.2 trivial
theorem riF_lt {b : Int} : ∀ {l : List Int} {p : Int}, riF b p l = true → ∀ i j, i < j → j < l.length → l.getD i default < l.getD j default
  | [], _, _, i, j, _, hj => by simp at hj
  | x :: l, p, h, i, j, hij, hj => by
    simp only [riF, Bool.and_eq_true, decide_eq_true_eq] at h
    cases j with
    | zero => omega
    | succ j =>
      have hj' : j < l.length := by simpa using hj
      cases i with
      | zero =>
        simp only [List.getD_cons_zero, List.getD_cons_succ]
        exact (riF_mem h.2 _ (getD_mem hj')).1
      | succ i =>
        simp only [List.getD_cons_succ]
        exact riF_lt h.2 i j (by omega) hj'
theorem lift_behind (ls : List Ln) (p : List Int) (s : Lb) (m : List Md) (n : Int) (L : Int) (hm : m.length ≤ 1000000) (h1 : riF L (-1) p = true) (h2 : riF p.length (-1) (keptF m) = true) (hn : -1000000000000 ≤ n ∧ n ≤ 1000000000000) (hp : p.length ≤ 1000000) :
    PC Try.prog 19 [iV ls p, iLb s, iMd m, iI n] [] 0 9 (fun t obs => t = .mptr 2 ∧ obs = [(2, .map 3 22 (encG (bhF p s m (-1) [] n)))]) := by
  refine PC.body [8] Try.func19 rfl (by rfl) (Nat.le_of_ble_eq_true (by rfl)) rfl ?_; simp only [enumA]
  ((repeat refine PWp.seq ?_); refine PWp.region TT (by rfl) (fun K hK => ?_); simp only [push_cast, seval, Nat.reduceEqDiff, Nat.reduceLeDiff, reduceCtorEq]; (repeat refine sk ?_); refine hK _ ?_; clear hK K)
  ((repeat refine PWp.seq ?_); refine PWp.region TT (by rfl) (fun K hK => ?_); simp only [push_cast, seval, Nat.reduceEqDiff, Nat.reduceLeDiff, reduceCtorEq]; (repeat refine sk ?_); refine hK _ ?_; clear hK K)
  ((repeat refine PWp.seq ?_); refine PWp.region TT (by rfl) (fun K hK => ?_); simp only [push_cast, seval, Nat.reduceEqDiff, Nat.reduceLeDiff, reduceCtorEq]; (repeat refine sk ?_); refine hK _ ?_; clear hK K)
  ((repeat refine PWp.seq ?_); refine PWp.region TT (by rfl) (fun K hK => ?_); simp only [push_cast, seval, Nat.reduceEqDiff, Nat.reduceLeDiff, reduceCtorEq]; (repeat refine sk ?_); refine hK _ ?_; clear hK K)
  ((repeat refine PWp.seq ?_); refine PWp.block ?_)
  refine PWp.loop (fun c st => ∃ (k : Nat) (a nn q : Int) (cur : List It) (done : List (Int × List It)), c = m.length - k ∧ k ≤ m.length ∧ bhF p s m (-1) [] n = done ++ bhF p s (m.drop k) a cur nn ∧
    (∀ g ∈ done, g.1 < a) ∧ riF p.length q (keptF (m.drop k)) = true ∧ ((q = -1 ∧ a = -1) ∨ (0 ≤ q ∧ q < p.length ∧ a = p.getD q.toNat default)) ∧ n ≤ nn ∧ nn ≤ n + k ∧ cur.length ≤ k ∧
    ((cur = [] ∧ st = ⟨[(3, iI nn), (4, .bptr 0 0), (5, .bptr 1 0), (9, .mptr 2), (10, iI a), (14, iMd m), (15, iI m.length), (16, iI k)],
      [(0, .box 26 [.iv (.sl 2 (ls.map encL)), iN p]), (1, .box 29 [iI s.v, .iv (.lit (.int .u64 s.c))]), (2, .map 3 22 (encG done))], 3⟩) ∨
     (cur ≠ [] ∧ st = ⟨[(3, iI nn), (4, .bptr 0 0), (5, .bptr 1 0), (9, .mptr 2), (10, iI a), (14, iMd m), (15, iI m.length), (16, iI k)],
      [(0, .box 26 [.iv (.sl 2 (ls.map encL)), iN p]), (1, .box 29 [iI s.v, .iv (.lit (.int .u64 s.c))]), (2, .map 3 22 (encG done ++ [(a, .acc 3 6 (cur.map encIt))])), (3, .row 41 6)], 4⟩))) _ _
    ⟨0, -1, n, -1, [], [], rfl, Nat.zero_le _, rfl, by simp, h2, .inl ⟨rfl, rfl⟩, Int.le_refl _, by omega, Nat.le_refl _, .inl ⟨rfl, rfl⟩⟩ (Gh.le (by simp [push_cast, -List.getD_eq_getElem?_getD, encG]) (by simp)) ?_
  rintro c st ⟨k, a, nn, q, cur, done, rfl, hk, hB, hd, hr, hq, hn1, hn2, hcl, hst⟩
  have step : k < m.length → ∃ x, (m.map encMd).getD k .any = encMd x ∧ x = m.getD k default ∧ bhF p s m (-1) [] n = done ++ (if x.o then clo a cur ++ bhF p s (m.drop (k + 1)) (oldP p x) [] nn else bhF p s (m.drop (k + 1)) a (cur ++ [newIt s x nn]) (nn + 1)) ∧
      (x.o = true → 0 ≤ x.i ∧ x.i < p.length ∧ riF p.length x.i (keptF (m.drop (k + 1))) = true ∧ a < oldP p x) ∧ (x.o = false → riF p.length q (keptF (m.drop (k + 1))) = true) := fun hlt => by
    refine ⟨m.getD k default, getD_map hlt, rfl, ?_, fun hx => ?_, fun hx => ?_⟩
    · rw [hB, drop_getD hlt]
      simp only [bhF]
    · rw [drop_getD hlt, keptF_cons, if_pos hx, List.cons_append, List.nil_append] at hr
      simp only [riF, Bool.and_eq_true, decide_eq_true_eq] at hr
      have hq1 : -1 ≤ q := by omega
      refine ⟨by omega, by omega, hr.2, ?_⟩
      unfold oldP
      rcases hq with ⟨rfl, rfl⟩ | ⟨g1, g2, rfl⟩
      · have := riF_getD h1 (k := (m.getD k default).i.toNat) (by omega)
        omega
      · exact riF_lt h1 _ _ (by omega) (by omega)
    · rw [drop_getD hlt, keptF_cons, if_neg (by rw [hx]; decide), List.nil_append] at hr
      exact hr
  have hmp := find_app hd
  have hpp := put_app hd
  have hf0 := find_app hd []
  have hp0 := put_app hd []
  simp only [List.append_nil] at hf0 hp0
  rcases hst with ⟨rfl, rfl⟩ | ⟨hne, rfl⟩
  · ((repeat refine PWp.seq ?_); refine PWp.region TT (by rfl) (fun K hK => ?_); simp only [push_cast, seval, Nat.reduceEqDiff, Nat.reduceLeDiff, reduceCtorEq]; (repeat refine sk ?_); refine hK _ ?_; clear hK K)
    ((repeat refine PWp.seq ?_); refine PWp.cond (by simp only [push_cast, seval, Nat.reduceEqDiff, Nat.reduceLeDiff, reduceCtorEq]; rfl) (fun hc => ?_) (fun hc => ?_))
    · have hlt : k < m.length := by simpa using hc
      clear hc
      obtain ⟨x, hg, hxd, hB', ho, hnw⟩ := step hlt
      ((repeat refine PWp.seq ?_); refine PWp.skip ?_)
      ((repeat refine PWp.seq ?_); refine PWp.block ?_)
      ((repeat refine PWp.seq ?_); refine PWp.region TT (by rfl) (fun K hK => ?_); simp only [push_cast, seval, Nat.reduceEqDiff, Nat.reduceLeDiff, reduceCtorEq, hg]; (repeat refine sk ?_); refine hK _ ?_; clear hK K)
      ((repeat refine PWp.seq ?_); refine PWp.region TT (by rfl) (fun K hK => ?_); simp only [push_cast, seval, Nat.reduceEqDiff, Nat.reduceLeDiff, reduceCtorEq]; (repeat refine sk ?_); refine hK _ ?_; clear hK K)
      ((repeat refine PWp.seq ?_); refine PWp.cond (by simp only [push_cast, seval, Nat.reduceEqDiff, Nat.reduceLeDiff, reduceCtorEq]; rfl) (fun hc => ?_) (fun hc => ?_))
      · obtain ⟨g1, g2, g3, g4⟩ := ho hc
        rw [if_pos hc] at hB'
        have hgp : (p.map encI).getD x.i.toNat .any = encI (p.getD x.i.toNat default) := getD_map (by omega)
        ((repeat refine PWp.seq ?_); refine PWp.region TT (by rfl) (fun K hK => ?_); simp only [push_cast, seval, Nat.reduceEqDiff, Nat.reduceLeDiff, reduceCtorEq, hgp]; (repeat refine sk ?_); refine hK _ ?_; clear hK K)
        (repeat refine PWp.seq ?_); refine PWp.exit (iteT rfl ?_)
        ((repeat refine PWp.seq ?_); refine PWp.region TT (by rfl) (fun K hK => ?_); simp only [push_cast, seval, Nat.reduceEqDiff, Nat.reduceLeDiff, reduceCtorEq, wrap64_id (n := (k : Int) + 1) (by omega) (by omega)]; (repeat refine sk ?_); refine hK _ ?_; clear hK K)
        refine ⟨_, _, ?_, ⟨k + 1, oldP p x, nn, x.i, [], done, rfl, by omega, hB', fun g hg => by have := hd g hg; omega, g3, .inr ⟨g1, by omega, rfl⟩, hn1, by omega, by simp, .inl ⟨rfl, rfl⟩⟩, Gh.le (by simp [push_cast, -List.getD_eq_getElem?_getD, oldP, mapsle_encG]) (by simp)⟩
        omega
      · rw [if_neg (by rw [hc]; decide)] at hB'
        have hnw' := hnw hc
        ((repeat refine PWp.seq ?_); refine PWp.skip ?_)
        ((repeat refine PWp.seq ?_); refine PWp.region TT (by rfl) (fun K hK => ?_); simp only [push_cast, seval, Nat.reduceEqDiff, Nat.reduceLeDiff, reduceCtorEq, hf0, hp0, demE_encG]; (repeat refine sk ?_); refine hK _ ?_; clear hK K)
        ((repeat refine PWp.seq ?_); refine PWp.region TT (by rfl) (fun K hK => ?_); simp only [push_cast, seval, Nat.reduceEqDiff, Nat.reduceLeDiff, reduceCtorEq, wrap64_id (n := nn + 1) (by omega) (by omega)]; (repeat refine sk ?_); refine hK _ ?_; clear hK K)
        ((repeat refine PWp.seq ?_); refine PWp.region TT (by rfl) (fun K hK => ?_); simp only [push_cast, seval, Nat.reduceEqDiff, Nat.reduceLeDiff, reduceCtorEq, wrap64_id (n := (k : Int) + 1) (by omega) (by omega)]; (repeat refine sk ?_); refine hK _ ?_; clear hK K)
        refine ⟨_, _, ?_, ⟨k + 1, a, nn + 1, q, [newIt s x nn], done, rfl, by omega, hB', hd, hnw', hq, by omega, by omega, by simp, .inr ⟨by simp, rfl⟩⟩, Gh.leR [0, 1, 2, 4] (by simp [push_cast, -List.getD_eq_getElem?_getD, newIt, mapsleR_app, hp0]; try decide)⟩
        omega
    · have hk' : k = m.length := by simp at hc; omega
      subst hk'
      rw [List.drop_length] at hB
      simp only [bhF, clo, List.append_nil] at hB
      (repeat refine PWp.seq ?_); refine PWp.exit (iteT rfl ?_)
      ((repeat refine PWp.seq ?_); refine PWp.region TT (by rfl) (fun K hK => ?_); simp only [push_cast, seval, Nat.reduceEqDiff, Nat.reduceLeDiff, reduceCtorEq]; (repeat refine sk ?_); refine hK _ ?_; clear hK K)
      ((repeat refine PWp.seq ?_); refine PWp.ret ?_)
      refine ⟨.inr rfl, by omega, _, _, ?_, rfl, rfl⟩
      rw [hB]
      (simp [push_cast, -List.getD_eq_getElem?_getD, mapsle_encG])
  · ((repeat refine PWp.seq ?_); refine PWp.region TT (by rfl) (fun K hK => ?_); simp only [push_cast, seval, Nat.reduceEqDiff, Nat.reduceLeDiff, reduceCtorEq]; (repeat refine sk ?_); refine hK _ ?_; clear hK K)
    ((repeat refine PWp.seq ?_); refine PWp.cond (by simp only [push_cast, seval, Nat.reduceEqDiff, Nat.reduceLeDiff, reduceCtorEq]; rfl) (fun hc => ?_) (fun hc => ?_))
    · have hlt : k < m.length := by simpa using hc
      clear hc
      obtain ⟨x, hg, hxd, hB', ho, hnw⟩ := step hlt
      ((repeat refine PWp.seq ?_); refine PWp.skip ?_)
      ((repeat refine PWp.seq ?_); refine PWp.block ?_)
      ((repeat refine PWp.seq ?_); refine PWp.region TT (by rfl) (fun K hK => ?_); simp only [push_cast, seval, Nat.reduceEqDiff, Nat.reduceLeDiff, reduceCtorEq, hg]; (repeat refine sk ?_); refine hK _ ?_; clear hK K)
      ((repeat refine PWp.seq ?_); refine PWp.region TT (by rfl) (fun K hK => ?_); simp only [push_cast, seval, Nat.reduceEqDiff, Nat.reduceLeDiff, reduceCtorEq]; (repeat refine sk ?_); refine hK _ ?_; clear hK K)
      ((repeat refine PWp.seq ?_); refine PWp.cond (by simp only [push_cast, seval, Nat.reduceEqDiff, Nat.reduceLeDiff, reduceCtorEq]; rfl) (fun hc => ?_) (fun hc => ?_))
      · obtain ⟨g1, g2, g3, g4⟩ := ho hc
        rw [if_pos hc, clo_ne hne, ← List.append_assoc] at hB'
        have hgp : (p.map encI).getD x.i.toNat .any = encI (p.getD x.i.toNat default) := getD_map (by omega)
        ((repeat refine PWp.seq ?_); refine PWp.region TT (by rfl) (fun K hK => ?_); simp only [push_cast, seval, Nat.reduceEqDiff, Nat.reduceLeDiff, reduceCtorEq, hgp]; (repeat refine sk ?_); refine hK _ ?_; clear hK K)
        (repeat refine PWp.seq ?_); refine PWp.exit (iteT rfl ?_)
        ((repeat refine PWp.seq ?_); refine PWp.region TT (by rfl) (fun K hK => ?_); simp only [push_cast, seval, Nat.reduceEqDiff, Nat.reduceLeDiff, reduceCtorEq, wrap64_id (n := (k : Int) + 1) (by omega) (by omega)]; (repeat refine sk ?_); refine hK _ ?_; clear hK K)
        refine ⟨_, _, ?_, ⟨k + 1, oldP p x, nn, x.i, [], done ++ [(a, cur)], rfl, by omega, hB', fun g hg => ?_, g3, .inr ⟨g1, by omega, rfl⟩, hn1, by omega, by simp, .inl ⟨rfl, rfl⟩⟩, Gh.le (by simp [push_cast, -List.getD_eq_getElem?_getD, oldP, encG_app, encG_one, mapsle_app]) (by simp)⟩
        · omega
        · rcases List.mem_append.1 hg with hg | hg
          · have := hd g hg; omega
          · simp at hg; subst hg; exact g4
      · rw [if_neg (by rw [hc]; decide)] at hB'
        have hnw' := hnw hc
        ((repeat refine PWp.seq ?_); refine PWp.skip ?_)
        ((repeat refine PWp.seq ?_); refine PWp.region TT (by rfl) (fun K hK => ?_); simp only [push_cast, seval, Nat.reduceEqDiff, Nat.reduceLeDiff, reduceCtorEq, hmp, hpp, demE_encG, demE_app]; (repeat refine sk ?_); refine hK _ ?_; clear hK K)
        ((repeat refine PWp.seq ?_); refine PWp.region TT (by rfl) (fun K hK => ?_); simp only [push_cast, seval, Nat.reduceEqDiff, Nat.reduceLeDiff, reduceCtorEq, wrap64_id (n := nn + 1) (by omega) (by omega)]; (repeat refine sk ?_); refine hK _ ?_; clear hK K)
        ((repeat refine PWp.seq ?_); refine PWp.region TT (by rfl) (fun K hK => ?_); simp only [push_cast, seval, Nat.reduceEqDiff, Nat.reduceLeDiff, reduceCtorEq, wrap64_id (n := (k : Int) + 1) (by omega) (by omega)]; (repeat refine sk ?_); refine hK _ ?_; clear hK K)
        refine ⟨_, _, ?_, ⟨k + 1, a, nn + 1, q, cur ++ [newIt s x nn], done, rfl, by omega, hB', hd, hnw', hq, by omega, by omega, by simp; omega, .inr ⟨by simp, rfl⟩⟩, Gh.le (by simp [push_cast, -List.getD_eq_getElem?_getD, newIt, mapsle_app, hpp]) (by simp)⟩
        omega
    · have hk' : k = m.length := by simp at hc; omega
      subst hk'
      rw [List.drop_length] at hB
      simp only [bhF, clo_ne hne] at hB
      (repeat refine PWp.seq ?_); refine PWp.exit (iteT rfl ?_)
      ((repeat refine PWp.seq ?_); refine PWp.region TT (by rfl) (fun K hK => ?_); simp only [push_cast, seval, Nat.reduceEqDiff, Nat.reduceLeDiff, reduceCtorEq]; (repeat refine sk ?_); refine hK _ ?_; clear hK K)
      ((repeat refine PWp.seq ?_); refine PWp.ret ?_)
      refine ⟨.inr rfl, by omega, _, _, ?_, rfl, rfl⟩
      rw [hB]
      (simp [push_cast, -List.getD_eq_getElem?_getD, encG_app, encG_one, mapsle_app])
end Go.Proofs.Ytanopjcfackblaa
