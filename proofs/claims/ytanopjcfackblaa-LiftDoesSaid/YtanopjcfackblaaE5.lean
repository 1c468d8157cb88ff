/- lift.Lift. -/
import Derived.Test.YtanopjcfackblaaE4
namespace Go.Proofs.Ytanopjcfackblaa
open Go.PL
set_option maxRecDepth 100000
set_option linter.unusedSimpArgs false
set_option linter.unusedVariables false
def gFind (gs : List (Int × List It)) (a : Int) : Option (Int × List It) := gs.find? (fun g => a == g.1)
def gDel (gs : List (Int × List It)) (a : Int) : List (Int × List It) := gs.eraseP (fun g => a == g.1)
/-- The new items behind a place. -/
def nzF (gs : List (Int × List It)) (a : Int) : List It := match gFind gs a with | some g => g.2 | none => []
theorem find_encG (a : Int) : ∀ (gs : List (Int × List It)), mapFind (encG gs) a = (gFind gs a).map fun g => iIt g.2
  | [] => rfl
  | g :: gs => by
    have := find_encG a gs
    simp only [encG, gFind, List.map_cons, mapFind, List.find?_cons] at this ⊢
    cases h : a == g.1
    · exact this
    · rfl
theorem del_encG (a : Int) : ∀ (gs : List (Int × List It)), mapDel (encG gs) a = encG (gDel gs a)
  | [] => rfl
  | g :: gs => by
    have := del_encG a gs
    simp only [encG, gDel, List.map_cons, mapDel, List.eraseP_cons] at this ⊢
    cases h : a == g.1
    · simp only [cond_false, this, List.map_cons, Bool.false_eq_true, if_false]
    · simp
theorem find_del {a b : Int} (h : a ≠ b) : ∀ (gs : List (Int × List It)), gFind (gDel gs a) b = gFind gs b
  | [] => rfl
  | g :: gs => by
    have ih := find_del h gs
    simp only [gFind, gDel, List.eraseP_cons, List.find?_cons] at ih ⊢
    cases h1 : a == g.1
    · simp only [cond_false, List.find?_cons, ih]
    · have e : a = g.1 := by simpa using h1
      have h2 : (b == g.1) = false := beq_eq_false_iff_ne.2 (by omega)
      simp only [cond_true, h2]
def dels (gs : List (Int × List It)) : Nat → List (Int × List It)
  | 0 => gDel gs (-1)
  | k + 1 => gDel (dels gs k) k
theorem find_dels (gs : List (Int × List It)) : ∀ (k j : Nat), k ≤ j → gFind (dels gs k) j = gFind gs j
  | 0, j, _ => find_del (by omega) gs
  | k + 1, j, h => by
    rw [dels, find_del (by omega), find_dels gs k j (by omega)]
theorem bhF_len (p : List Int) (s : Lb) : ∀ (m : List Md) (a : Int) (cur : List It) (n : Int), ∀ g ∈ bhF p s m a cur n, g.2.length ≤ cur.length + m.length
  | [], a, cur, n, g, hg => by
    cases cur with
    | nil => simp [bhF, clo] at hg
    | cons c cur => simp only [bhF, clo, List.mem_singleton] at hg; subst hg; simp
  | x :: m, a, cur, n, g, hg => by
    simp only [bhF] at hg
    rw [List.length_cons]
    split at hg
    · rcases List.mem_append.1 hg with hg | hg
      · cases cur with
        | nil => simp [clo] at hg
        | cons c cur => simp only [clo, List.mem_singleton] at hg; subst hg; simp
      · have := bhF_len p s m _ _ _ g hg
        simp at this
        omega
    · have := bhF_len p s m _ _ _ g hg
      simp at this
      omega
theorem nz_len {p : List Int} {s : Lb} {m : List Md} {n a : Int} : (nzF (bhF p s m (-1) [] n) a).length ≤ m.length := by
  unfold nzF
  cases h : gFind (bhF p s m (-1) [] n) a with
  | none => simp
  | some g =>
    have := bhF_len p s m (-1) [] n g (List.mem_of_find?_eq_some h)
    simpa using this
/-- Does an item stay? -/
def keepK (p : List Int) (m : List Md) (k : Nat) : Bool := !p.contains (k : Int) || madeB m (idxI p k)
def kxF (l : List It) (p : List Int) (m : List Md) (k : Nat) : List It := if keepK p m k then [l.getD k default] else []
def liftN (l : List It) (p : List Int) (s : Lb) (m : List Md) (n : Int) (k : Nat) : List It :=
  nzF (bhF p s m (-1) [] n) (-1) ++ (List.range k).flatMap fun j => kxF l p m j ++ nzF (bhF p s m (-1) [] n) j
theorem liftN_succ (l : List It) (p : List Int) (s : Lb) (m : List Md) (n : Int) (k : Nat) : liftN l p s m n (k + 1) = liftN l p s m n k ++ kxF l p m k ++ nzF (bhF p s m (-1) [] n) k := by
  unfold liftN
  rw [List.range_succ, List.flatMap_append]
  simp
theorem liftN_len (l : List It) (p : List Int) (s : Lb) (m : List Md) (n : Int) : ∀ k, (liftN l p s m n k).length ≤ m.length + k * (m.length + 1)
  | 0 => by
    have := nz_len (p := p) (s := s) (m := m) (n := n) (a := -1)
    simp [liftN]
    omega
  | k + 1 => by
    have h1 := nz_len (p := p) (s := s) (m := m) (n := n) (a := k)
    have h2 := liftN_len l p s m n k
    have h3 : (kxF l p m k).length ≤ 1 := by unfold kxF; split <;> simp
    rw [liftN_succ, List.length_append, List.length_append, Nat.succ_mul]
    omega
def liftE (l : List It) (p : List Int) (s : Lb) (m : List Md) (n : Int) : Int :=
  if chkF l p s m ≠ 0 then chkF l p s m else if n < 1 ∨ n > 2147483647 - (m.length - (keptF m).length) then 2 else 0
def liftR (l : List It) (p : List Int) (s : Lb) (m : List Md) (n : Int) (t : TV) (obs : List (Nat × Ob)) : Prop :=
  (liftE l p s m n ≠ 0 ∧ t = .tup [.nilsl, iI 0, iI (liftE l p s m n)] ∧ obs = []) ∨
  (liftE l p s m n = 0 ∧ t = .tup [.mrow 2, iI (n + (m.length - (keptF m).length)), iI 0] ∧ obs = [(2, .mrow 41 6 ((liftN l p s m n l.length).map encIt))])
theorem chkF_zero {l : List It} {p : List Int} {s : Lb} {m : List Md} (h : chkF l p s m = 0) : riF l.length (-1) p = true ∧ riF p.length (-1) (keptF m) = true ∧ m.any badM = false ∧ ∀ i, i < p.length → badV l p s m i = false := by
  unfold chkF at h
  split at h
  · rename_i h1
    split at h
    · rename_i h2
      rw [Bool.and_eq_true] at h2
      split at h
      · cases h
      · rename_i h3
        refine ⟨h1, h2.1, by simpa using h2.2, fun i hi => ?_⟩
        rw [← Bool.not_eq_true]
        intro hb
        exact h3 (List.any_eq_true.2 ⟨i, List.mem_range.2 hi, hb⟩)
    · cases h
  · cases h
theorem lift_Lift (l : List It) (ls : List Ln) (p : List Int) (s : Lb) (m : List Md) (n : Int) (hl : l.length ≤ 1000) (hp : p.length ≤ 9223372036854775807) (hm : m.length ≤ 1000) :
    PC Try.prog 9 [iIt l, iV ls p, iLb s, iMd m, iI n] [] 0 9 (liftR l p s m n) := by
  refine PC.body [10, 11, 12] Try.func9 rfl (by rfl) (Nat.le_of_ble_eq_true (by rfl)) rfl ?_; simp only [enumA]
  ((repeat refine PWp.seq ?_); refine PWp.region TT (by rfl) (fun K hK => ?_); simp only [push_cast, seval, Nat.reduceEqDiff, Nat.reduceLeDiff, reduceCtorEq]; (repeat refine sk ?_); refine hK _ ?_; clear hK K)
  ((repeat refine PWp.seq ?_); refine PWp.region TT (by rfl) (fun K hK => ?_); simp only [push_cast, seval, Nat.reduceEqDiff, Nat.reduceLeDiff, reduceCtorEq])
  ((repeat refine sk ?_); refine PCall.use (lift_Check l ls p s m (by omega) hp (by omega)) [] rfl (by simp [push_cast]) (by simp) (by simp [push_cast]) (by simp [push_cast]) (by simp [push_cast]) (by simp [push_cast]) ?_)
  rintro _ _ ⟨rfl, rfl⟩
  (simp only [push_cast, seval, Nat.reduceEqDiff, Nat.reduceLeDiff, reduceCtorEq]; (repeat refine sk ?_); refine hK _ ?_; clear hK K)
  ((repeat refine PWp.seq ?_); refine PWp.region TT (by rfl) (fun K hK => ?_); simp only [push_cast, seval, Nat.reduceEqDiff, Nat.reduceLeDiff, reduceCtorEq]; (repeat refine sk ?_); refine hK _ ?_; clear hK K)
  ((repeat refine PWp.seq ?_); refine PWp.cond (by simp only [push_cast, seval, Nat.reduceEqDiff, Nat.reduceLeDiff, reduceCtorEq]; rfl) (fun hc => ?_) (fun hc => ?_))
  · have h0 : chkF l p s m ≠ 0 := by simpa using hc
    have hE : liftE l p s m n = chkF l p s m := by unfold liftE; rw [if_pos h0]
    ((repeat refine PWp.seq ?_); refine PWp.region TT (by rfl) (fun K hK => ?_); simp only [push_cast, seval, Nat.reduceEqDiff, Nat.reduceLeDiff, reduceCtorEq]; (repeat refine sk ?_); refine hK _ ?_; clear hK K)
    ((repeat refine PWp.seq ?_); refine PWp.ret ?_)
    refine ⟨.inr rfl, by omega, _, [], ?_, .inl ⟨by rw [hE]; exact h0, rfl, rfl⟩⟩
    rw [hE]
    (simp [push_cast, -List.getD_eq_getElem?_getD])
  · have h0 : chkF l p s m = 0 := by simpa using hc
    clear hc
    obtain ⟨h1, h2, h3, h4⟩ := chkF_zero h0
    have hpl := riF_len h1 (by omega)
    have hkl := keptF_length m
    ((repeat refine PWp.seq ?_); refine PWp.skip ?_)
    ((repeat refine PWp.seq ?_); refine PWp.region TT (by rfl) (fun K hK => ?_); simp only [push_cast, seval, Nat.reduceEqDiff, Nat.reduceLeDiff, reduceCtorEq])
    ((repeat refine sk ?_); refine PCall.use (lift_kept m (by omega)) [] rfl (by simp [push_cast]) (by simp) (by simp [push_cast]) (by simp [push_cast]) (by simp [push_cast]) (by simp [push_cast]) ?_)
    rintro _ _ ⟨rfl, rfl⟩
    (simp only [push_cast, seval, Nat.reduceEqDiff, Nat.reduceLeDiff, reduceCtorEq]; (repeat refine sk ?_); refine hK _ ?_; clear hK K)
    ((repeat refine PWp.seq ?_); refine PWp.region TT (by rfl) (fun K hK => ?_); simp only [push_cast, seval, Nat.reduceEqDiff, Nat.reduceLeDiff, reduceCtorEq, wrap64_id (n := (m.length : Int) - (keptF m).length) (by omega) (by omega)]; (repeat refine sk ?_); refine hK _ ?_; clear hK K)
    ((repeat refine PWp.seq ?_); refine PWp.block ?_)
    ((repeat refine PWp.seq ?_); refine PWp.region TT (by rfl) (fun K hK => ?_); simp only [push_cast, seval, Nat.reduceEqDiff, Nat.reduceLeDiff, reduceCtorEq, wrap64_id (n := (l.length : Int) - p.length) (by omega) (by omega), wrap64_id (n := 1073741824 - (m.length : Int)) (by omega) (by omega)]; (repeat refine sk ?_); refine hK _ ?_; clear hK K)
    ((repeat refine PWp.seq ?_); refine PWp.cond (by simp only [push_cast, seval, Nat.reduceEqDiff, Nat.reduceLeDiff, reduceCtorEq]; rfl) (fun hc => ?_) (fun hc => ?_))
    · exfalso
      simp at hc
      omega
    · clear hc
      ((repeat refine PWp.seq ?_); refine PWp.region TT (by rfl) (fun K hK => ?_); simp only [push_cast, seval, Nat.reduceEqDiff, Nat.reduceLeDiff, reduceCtorEq, wrap64_id (n := 2147483647 - ((m.length : Int) - (keptF m).length)) (by omega) (by omega)]; (repeat refine sk ?_); refine hK _ ?_; clear hK K)
      ((repeat refine PWp.seq ?_); refine PWp.cond (by simp only [push_cast, seval, Nat.reduceEqDiff, Nat.reduceLeDiff, reduceCtorEq]; rfl) (fun hc => ?_) (fun hc => ?_))
      · have hE : liftE l p s m n = 2 := by
          unfold liftE
          rw [if_neg (by rw [h0]; decide), if_pos]
          simp only [Bool.or_eq_true, Bool.and_eq_true, Bool.not_eq_true', Bool.not_eq_false', Bool.or_eq_false_iff, Bool.and_eq_false_iff, decide_eq_true_eq, decide_eq_false_iff_not, beq_iff_eq, beq_eq_false_iff_ne, bne_iff_ne, bne_eq_false_iff_eq, ne_eq, Classical.not_not, Int.not_lt, Int.not_le, ge_iff_le, gt_iff_lt] at hc
          omega
        ((repeat refine PWp.seq ?_); refine PWp.region TT (by rfl) (fun K hK => ?_); simp only [push_cast, seval, Nat.reduceEqDiff, Nat.reduceLeDiff, reduceCtorEq]; (repeat refine sk ?_); refine hK _ ?_; clear hK K)
        ((repeat refine PWp.seq ?_); refine PWp.ret ?_)
        refine ⟨.inr rfl, by omega, _, [], ?_, .inl ⟨by rw [hE]; decide, rfl, rfl⟩⟩
        rw [hE]
        (simp [push_cast, -List.getD_eq_getElem?_getD])
      · simp only [Bool.or_eq_true, Bool.and_eq_true, Bool.not_eq_true', Bool.not_eq_false', Bool.or_eq_false_iff, Bool.and_eq_false_iff, decide_eq_true_eq, decide_eq_false_iff_not, beq_iff_eq, beq_eq_false_iff_ne, bne_iff_ne, bne_eq_false_iff_eq, ne_eq, Classical.not_not, Int.not_lt, Int.not_le, ge_iff_le, gt_iff_lt] at hc
        have hE : liftE l p s m n = 0 := by
          unfold liftE
          rw [if_neg (by rw [h0]; decide), if_neg]
          omega
        have hn : 1 ≤ n ∧ n ≤ 2147483647 := by omega
        clear hc
        ((repeat refine PWp.seq ?_); refine PWp.skip ?_)
        ((repeat refine PWp.seq ?_); refine PWp.region TT (by rfl) (fun K hK => ?_); simp only [push_cast, seval, Nat.reduceEqDiff, Nat.reduceLeDiff, reduceCtorEq])
        ((repeat refine sk ?_); refine PCall.use (lift_behind ls p s m n l.length (by omega) h1 h2 (by omega) (by omega)) [] rfl (by simp [push_cast]) (by simp) (by simp [push_cast]) (by simp [push_cast]) (by simp [push_cast]) (by simp [push_cast]) ?_)
        rintro _ _ ⟨rfl, rfl⟩
        have hnl := fun a => nz_len (p := p) (s := s) (m := m) (n := n) (a := a)
        have hll := fun k => liftN_len l p s m n k
        have hls := fun k => liftN_succ l p s m n k
        have hl0 : liftN l p s m n 0 = nzF (bhF p s m (-1) [] n) (-1) := by simp [liftN]
        generalize bhF p s m (-1) [] n = gs at *
        (simp only [push_cast, seval, Nat.reduceEqDiff, Nat.reduceLeDiff, reduceCtorEq]; (repeat refine sk ?_); refine hK _ ?_; clear hK K)
        have hv0 : ∃ v0 : TV, (mapFind (encG gs) (-1)).getD .nilsl = v0 ∧ v0.strip = v0 ∧ (v0.pre = True) ∧ (v0.im = .sl 6 ((nzF gs (-1)).map encIt) ∨ v0 = .iv (.sl 6 ((nzF gs (-1)).map encIt)) ∨ v0.im.leq (.sl 6 ((nzF gs (-1)).map encIt))) := by
          rw [find_encG]
          unfold nzF
          cases gFind gs (-1) with
          | none => exact ⟨_, rfl, rfl, rfl, .inr (.inr (.inl ⟨rfl, rfl⟩))⟩
          | some g => exact ⟨_, rfl, rfl, rfl, .inl rfl⟩
        obtain ⟨v0, e0, e1, e2, e3⟩ := hv0
        unfold TV.strip at e1
        unfold TV.pre at e2
        unfold TV.im at e3
        ((repeat refine PWp.seq ?_); refine PWp.region TT (by rfl) (fun K hK => ?_); simp only [push_cast, seval, Nat.reduceEqDiff, Nat.reduceLeDiff, reduceCtorEq, e0, e1, e2])
        ((repeat refine sk ?_); refine PCall.use (Clone_items (nzF gs (-1)) (by have := hnl (-1); omega)) [] rfl (by simp [push_cast, e3]) (by simp) (by simp [push_cast, e3]) (by simp [push_cast, e3]) (by simp [push_cast, e3]) (by simp [push_cast, e3]) ?_)
        rintro _ _ ⟨rfl, rfl⟩
        rw [← hl0]
        (simp only [push_cast, seval, Nat.reduceEqDiff, Nat.reduceLeDiff, reduceCtorEq]; (repeat refine sk ?_); refine hK _ ?_; clear hK K)
        ((repeat refine PWp.seq ?_); refine PWp.region TT (by rfl) (fun K hK => ?_); simp only [push_cast, seval, Nat.reduceEqDiff, Nat.reduceLeDiff, reduceCtorEq, del_encG]; (repeat refine sk ?_); refine hK _ ?_; clear hK K)
        refine PWp.gh (st' := ⟨[(0, iIt l), (4, iI n), (6, .bptr 0 0), (14, iN (keptF m)), (15, iI (m.length - (keptF m).length)), (16, .mptr 1), (17, .mrow 2)],
          [(0, .box 26 [.iv (.sl 2 (ls.map encL)), iN p]), (1, .map 3 22 (encG (dels gs 0))), (2, .mrow 41 6 ((liftN l p s m n 0).map encIt))], 3⟩) (Gh.leR [0, 14, 21] (by simp [push_cast, -List.getD_eq_getElem?_getD, dels, mapsleR_encG]; try decide)) ?_
        ((repeat refine PWp.seq ?_); refine PWp.region TT (by rfl) (fun K hK => ?_); simp only [push_cast, seval, Nat.reduceEqDiff, Nat.reduceLeDiff, reduceCtorEq]; (repeat refine sk ?_); refine hK _ ?_; clear hK K)
        ((repeat refine PWp.seq ?_); refine PWp.block ?_)
        refine PWp.loop (fun c st => ∃ k : Nat, c = l.length - k ∧ k ≤ l.length ∧
          st = ⟨[(4, iI n), (6, .bptr 0 0), (14, iN (keptF m)), (15, iI (m.length - (keptF m).length)), (16, .mptr 1), (17, .mrow 2), (66, iIt l), (67, iI l.length), (68, iI k)],
            [(0, .box 26 [.iv (.sl 2 (ls.map encL)), iN p]), (1, .map 3 22 (encG (dels gs k))), (2, .mrow 41 6 ((liftN l p s m n k).map encIt))], 3⟩) _ _ ⟨0, rfl, Nat.zero_le _, rfl⟩ (Gh.le (by simp [push_cast, -List.getD_eq_getElem?_getD, dels, mapsle_encG]) (by simp)) ?_
        rintro c st ⟨k, rfl, hk, rfl⟩
        ((repeat refine PWp.seq ?_); refine PWp.region TT (by rfl) (fun K hK => ?_); simp only [push_cast, seval, Nat.reduceEqDiff, Nat.reduceLeDiff, reduceCtorEq]; (repeat refine sk ?_); refine hK _ ?_; clear hK K)
        ((repeat refine PWp.seq ?_); refine PWp.cond (by simp only [push_cast, seval, Nat.reduceEqDiff, Nat.reduceLeDiff, reduceCtorEq]; rfl) (fun hc => ?_) (fun hc => ?_))
        · have hlt : k < l.length := by simpa using hc
          clear hc
          have hg : (l.map encIt).getD k .any = encIt (l.getD k default) := getD_map hlt
          have hfd : mapFind (encG (dels gs k)) k = (gFind gs k).map fun g => iIt g.2 := by rw [find_encG, find_dels _ _ _ (Nat.le_refl _)]
          have hb1 : (liftN l p s m n k).length ≤ 1002000 := by
            have h5 := hll k
            have h6 : k * (m.length + 1) ≤ 1000 * 1001 := Nat.mul_le_mul (by omega) (by omega)
            omega
          have hb2 := hnl k
          have hk1 : keepK p m k = true → liftN l p s m n (k + 1) = liftN l p s m n k ++ [l.getD k default] ++ nzF gs k := fun h => by rw [hls, kxF, if_pos h]
          have hk0 : keepK p m k = false → liftN l p s m n (k + 1) = liftN l p s m n k ++ nzF gs k := fun h => by rw [hls, kxF, h, if_neg (by decide), List.append_nil]
          unfold keepK at hk1 hk0
          generalize l.getD k default = x at *
          generalize liftN l p s m n k = W at *
          ((repeat refine PWp.seq ?_); refine PWp.skip ?_)
          ((repeat refine PWp.seq ?_); refine PWp.block ?_)
          ((repeat refine PWp.seq ?_); refine PWp.region TT (by rfl) (fun K hK => ?_); simp only [push_cast, seval, Nat.reduceEqDiff, Nat.reduceLeDiff, reduceCtorEq, hg]; (repeat refine sk ?_); refine hK _ ?_; clear hK K)
          ((repeat refine PWp.seq ?_); refine PWp.region TT (by rfl) (fun K hK => ?_); simp only [push_cast, seval, Nat.reduceEqDiff, Nat.reduceLeDiff, reduceCtorEq])
          ((repeat refine sk ?_); refine PCall.use (view_Find ls p k hp) [] rfl (by simp [push_cast]) (by simp) (by simp [push_cast]) (by simp [push_cast]) (by simp [push_cast]) (by simp [push_cast]) ?_)
          rintro _ _ ⟨rfl, rfl⟩
          cases hin : p.contains (k : Int) with
          | false =>
            rw [if_neg (by decide)]
            (simp only [push_cast, seval, Nat.reduceEqDiff, Nat.reduceLeDiff, reduceCtorEq]; (repeat refine sk ?_); refine hK _ ?_; clear hK K)
            ((repeat refine PWp.seq ?_); refine PWp.region TT (by rfl) (fun K hK => ?_); simp only [push_cast, seval, Nat.reduceEqDiff, Nat.reduceLeDiff, reduceCtorEq]; (repeat refine sk ?_); refine hK _ ?_; clear hK K)
            ((repeat refine PWp.seq ?_); refine PWp.cond (by simp only [push_cast, seval, Nat.reduceEqDiff, Nat.reduceLeDiff, reduceCtorEq]; rfl) (fun hc => ?_) (fun hc => ?_))
            · clear hc
              have hs := hk1 (by rw [hin]; rfl)
              ((repeat refine PWp.seq ?_); refine PWp.region TT (by rfl) (fun K hK => ?_); simp only [push_cast, seval, Nat.reduceEqDiff, Nat.reduceLeDiff, reduceCtorEq]; (repeat refine sk ?_); refine hK _ ?_; clear hK K)
              cases hF : gFind gs k with
              | none =>
                have hz : nzF gs k = [] := by unfold nzF; rw [hF]
                have hfd' : mapFind (encG (dels gs k)) k = none := by rw [hfd, hF]; rfl
                rw [hz, List.append_nil] at hs
                ((repeat refine PWp.seq ?_); refine PWp.region TT (by rfl) (fun K hK => ?_); simp only [push_cast, seval, Nat.reduceEqDiff, Nat.reduceLeDiff, reduceCtorEq, hfd', Option.getD_none]; (repeat refine sk ?_); refine hK _ ?_; clear hK K)
                ((repeat refine PWp.seq ?_); refine PWp.region TT (by rfl) (fun K hK => ?_); simp only [push_cast, seval, Nat.reduceEqDiff, Nat.reduceLeDiff, reduceCtorEq, del_encG]; (repeat refine sk ?_); refine hK _ ?_; clear hK K)
                ((repeat refine PWp.seq ?_); refine PWp.region TT (by rfl) (fun K hK => ?_); simp only [push_cast, seval, Nat.reduceEqDiff, Nat.reduceLeDiff, reduceCtorEq, wrap64_id (n := (k : Int) + 1) (by omega) (by omega)]; (repeat refine sk ?_); refine hK _ ?_; clear hK K)
                refine ⟨_, _, ?_, ⟨k + 1, rfl, by omega, rfl⟩, Gh.leR [0, 1, 5] (by simp [push_cast, -List.getD_eq_getElem?_getD, hs, dels, mapsleR_encG]; try decide)⟩
                omega
              | some g =>
                have hz : nzF gs k = g.2 := by unfold nzF; rw [hF]
                have hfd' : mapFind (encG (dels gs k)) k = some (iIt g.2) := by rw [hfd, hF]; rfl
                have hlg := lensIt g.2
                rw [hz] at hs hb2
                ((repeat refine PWp.seq ?_); refine PWp.region TT (by rfl) (fun K hK => ?_); simp only [push_cast, seval, Nat.reduceEqDiff, Nat.reduceLeDiff, reduceCtorEq, hfd', hlg, Option.getD_some]; (repeat refine sk ?_); refine hK _ ?_; clear hK K)
                ((repeat refine PWp.seq ?_); refine PWp.region TT (by rfl) (fun K hK => ?_); simp only [push_cast, seval, Nat.reduceEqDiff, Nat.reduceLeDiff, reduceCtorEq, del_encG]; (repeat refine sk ?_); refine hK _ ?_; clear hK K)
                ((repeat refine PWp.seq ?_); refine PWp.region TT (by rfl) (fun K hK => ?_); simp only [push_cast, seval, Nat.reduceEqDiff, Nat.reduceLeDiff, reduceCtorEq, wrap64_id (n := (k : Int) + 1) (by omega) (by omega)]; (repeat refine sk ?_); refine hK _ ?_; clear hK K)
                refine ⟨_, _, ?_, ⟨k + 1, rfl, by omega, rfl⟩, Gh.leR [0, 1, 5] (by simp [push_cast, -List.getD_eq_getElem?_getD, hs, dels, mapsleR_encG]; try decide)⟩
                omega
            · cases hc
          | true =>
            rw [if_pos rfl]
            (simp only [push_cast, seval, Nat.reduceEqDiff, Nat.reduceLeDiff, reduceCtorEq]; (repeat refine sk ?_); refine hK _ ?_; clear hK K)
            ((repeat refine PWp.seq ?_); refine PWp.region TT (by rfl) (fun K hK => ?_); simp only [push_cast, seval, Nat.reduceEqDiff, Nat.reduceLeDiff, reduceCtorEq])
            ((repeat refine sk ?_); refine PCall.use (slices_Contains (keptF m) (idxI p k) (by omega)) [] rfl (by simp [push_cast]) (by simp) (by simp [push_cast]) (by simp [push_cast]) (by simp [push_cast]) (by simp [push_cast]) ?_)
            rintro _ _ ⟨rfl, rfl⟩
            rw [kept_made]
            (simp only [push_cast, seval, Nat.reduceEqDiff, Nat.reduceLeDiff, reduceCtorEq]; (repeat refine sk ?_); refine hK _ ?_; clear hK K)
            ((repeat refine PWp.seq ?_); refine PWp.cond (by simp only [push_cast, seval, Nat.reduceEqDiff, Nat.reduceLeDiff, reduceCtorEq]; rfl) (fun hc => ?_) (fun hc => ?_))
            · have hmd : madeB m (idxI p k) = true := hc
              clear hc
              have hs := hk1 (by rw [hmd, Bool.or_true])
              ((repeat refine PWp.seq ?_); refine PWp.region TT (by rfl) (fun K hK => ?_); simp only [push_cast, seval, Nat.reduceEqDiff, Nat.reduceLeDiff, reduceCtorEq]; (repeat refine sk ?_); refine hK _ ?_; clear hK K)
              cases hF : gFind gs k with
              | none =>
                have hz : nzF gs k = [] := by unfold nzF; rw [hF]
                have hfd' : mapFind (encG (dels gs k)) k = none := by rw [hfd, hF]; rfl
                rw [hz, List.append_nil] at hs
                ((repeat refine PWp.seq ?_); refine PWp.region TT (by rfl) (fun K hK => ?_); simp only [push_cast, seval, Nat.reduceEqDiff, Nat.reduceLeDiff, reduceCtorEq, hfd', Option.getD_none]; (repeat refine sk ?_); refine hK _ ?_; clear hK K)
                ((repeat refine PWp.seq ?_); refine PWp.region TT (by rfl) (fun K hK => ?_); simp only [push_cast, seval, Nat.reduceEqDiff, Nat.reduceLeDiff, reduceCtorEq, del_encG]; (repeat refine sk ?_); refine hK _ ?_; clear hK K)
                ((repeat refine PWp.seq ?_); refine PWp.region TT (by rfl) (fun K hK => ?_); simp only [push_cast, seval, Nat.reduceEqDiff, Nat.reduceLeDiff, reduceCtorEq, wrap64_id (n := (k : Int) + 1) (by omega) (by omega)]; (repeat refine sk ?_); refine hK _ ?_; clear hK K)
                refine ⟨_, _, ?_, ⟨k + 1, rfl, by omega, rfl⟩, Gh.leR [0, 1, 5] (by simp [push_cast, -List.getD_eq_getElem?_getD, hs, dels, mapsleR_encG]; try decide)⟩
                omega
              | some g =>
                have hz : nzF gs k = g.2 := by unfold nzF; rw [hF]
                have hfd' : mapFind (encG (dels gs k)) k = some (iIt g.2) := by rw [hfd, hF]; rfl
                have hlg := lensIt g.2
                rw [hz] at hs hb2
                ((repeat refine PWp.seq ?_); refine PWp.region TT (by rfl) (fun K hK => ?_); simp only [push_cast, seval, Nat.reduceEqDiff, Nat.reduceLeDiff, reduceCtorEq, hfd', hlg, Option.getD_some]; (repeat refine sk ?_); refine hK _ ?_; clear hK K)
                ((repeat refine PWp.seq ?_); refine PWp.region TT (by rfl) (fun K hK => ?_); simp only [push_cast, seval, Nat.reduceEqDiff, Nat.reduceLeDiff, reduceCtorEq, del_encG]; (repeat refine sk ?_); refine hK _ ?_; clear hK K)
                ((repeat refine PWp.seq ?_); refine PWp.region TT (by rfl) (fun K hK => ?_); simp only [push_cast, seval, Nat.reduceEqDiff, Nat.reduceLeDiff, reduceCtorEq, wrap64_id (n := (k : Int) + 1) (by omega) (by omega)]; (repeat refine sk ?_); refine hK _ ?_; clear hK K)
                refine ⟨_, _, ?_, ⟨k + 1, rfl, by omega, rfl⟩, Gh.leR [0, 1, 5] (by simp [push_cast, -List.getD_eq_getElem?_getD, hs, dels, mapsleR_encG]; try decide)⟩
                omega
            · have hmd : madeB m (idxI p k) = false := hc
              clear hc
              have hs := hk0 (by rw [hin, hmd]; rfl)
              ((repeat refine PWp.seq ?_); refine PWp.skip ?_)
              cases hF : gFind gs k with
              | none =>
                have hz : nzF gs k = [] := by unfold nzF; rw [hF]
                have hfd' : mapFind (encG (dels gs k)) k = none := by rw [hfd, hF]; rfl
                rw [hz, List.append_nil] at hs
                ((repeat refine PWp.seq ?_); refine PWp.region TT (by rfl) (fun K hK => ?_); simp only [push_cast, seval, Nat.reduceEqDiff, Nat.reduceLeDiff, reduceCtorEq, hfd', Option.getD_none]; (repeat refine sk ?_); refine hK _ ?_; clear hK K)
                ((repeat refine PWp.seq ?_); refine PWp.region TT (by rfl) (fun K hK => ?_); simp only [push_cast, seval, Nat.reduceEqDiff, Nat.reduceLeDiff, reduceCtorEq, del_encG]; (repeat refine sk ?_); refine hK _ ?_; clear hK K)
                ((repeat refine PWp.seq ?_); refine PWp.region TT (by rfl) (fun K hK => ?_); simp only [push_cast, seval, Nat.reduceEqDiff, Nat.reduceLeDiff, reduceCtorEq, wrap64_id (n := (k : Int) + 1) (by omega) (by omega)]; (repeat refine sk ?_); refine hK _ ?_; clear hK K)
                refine ⟨_, _, ?_, ⟨k + 1, rfl, by omega, rfl⟩, Gh.leR [0, 1, 4] (by simp [push_cast, -List.getD_eq_getElem?_getD, hs, dels, mapsleR_encG]; try decide)⟩
                omega
              | some g =>
                have hz : nzF gs k = g.2 := by unfold nzF; rw [hF]
                have hfd' : mapFind (encG (dels gs k)) k = some (iIt g.2) := by rw [hfd, hF]; rfl
                have hlg := lensIt g.2
                rw [hz] at hs hb2
                ((repeat refine PWp.seq ?_); refine PWp.region TT (by rfl) (fun K hK => ?_); simp only [push_cast, seval, Nat.reduceEqDiff, Nat.reduceLeDiff, reduceCtorEq, hfd', hlg, Option.getD_some]; (repeat refine sk ?_); refine hK _ ?_; clear hK K)
                ((repeat refine PWp.seq ?_); refine PWp.region TT (by rfl) (fun K hK => ?_); simp only [push_cast, seval, Nat.reduceEqDiff, Nat.reduceLeDiff, reduceCtorEq, del_encG]; (repeat refine sk ?_); refine hK _ ?_; clear hK K)
                ((repeat refine PWp.seq ?_); refine PWp.region TT (by rfl) (fun K hK => ?_); simp only [push_cast, seval, Nat.reduceEqDiff, Nat.reduceLeDiff, reduceCtorEq, wrap64_id (n := (k : Int) + 1) (by omega) (by omega)]; (repeat refine sk ?_); refine hK _ ?_; clear hK K)
                refine ⟨_, _, ?_, ⟨k + 1, rfl, by omega, rfl⟩, Gh.leR [0, 1, 4] (by simp [push_cast, -List.getD_eq_getElem?_getD, hs, dels, mapsleR_encG]; try decide)⟩
                omega
        · have hk' : k = l.length := by simp at hc; omega
          subst hk'
          (repeat refine PWp.seq ?_); refine PWp.exit (iteT rfl ?_)
          ((repeat refine PWp.seq ?_); refine PWp.region TT (by rfl) (fun K hK => ?_); simp only [push_cast, seval, Nat.reduceEqDiff, Nat.reduceLeDiff, reduceCtorEq, wrap64_id (n := n + ((m.length : Int) - (keptF m).length)) (by omega) (by omega)]; (repeat refine sk ?_); refine hK _ ?_; clear hK K)
          ((repeat refine PWp.seq ?_); refine PWp.ret ?_)
          refine ⟨.inr rfl, by omega, _, _, ?_, .inr ⟨hE, rfl, rfl⟩⟩
          (simp [push_cast, -List.getD_eq_getElem?_getD])
end Go.Proofs.Ytanopjcfackblaa
