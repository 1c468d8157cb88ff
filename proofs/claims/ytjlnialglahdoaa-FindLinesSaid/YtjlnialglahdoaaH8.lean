/- Plain laws of patterns; the walk of FindBoth. -/
import Derived.Test.YtjlnialglahdoaaH7
namespace Go.Proofs.Ytjlnialglahdoaa
open Go.PL
set_option maxRecDepth 100000
set_option linter.unusedSimpArgs false
set_option linter.unusedVariables false
/-! ### A pattern behind a pattern -/
theorem parN_fuel : ∀ (f g : Nat) (r : List UInt8) (acc : List Pt), r.length < f → r.length < g → parN f r acc = parN g r acc
  | 0, _, _, _, h, _ => absurd h (Nat.not_lt_zero _)
  | _, 0, _, _, _, h => absurd h (Nat.not_lt_zero _)
  | f + 1, g + 1, [], acc, _, _ => rfl
  | f + 1, g + 1, x :: r, acc, hf, hg => by
    rw [List.length_cons] at hf hg
    have ih := fun acc => parN_fuel f g r acc (by omega) (by omega)
    have ihd := fun n acc => parN_fuel f g (r.drop n) acc (by rw [List.length_drop]; omega) (by rw [List.length_drop]; omega)
    simp only [parN, ih, ihd]
    cases r with
    | nil => rfl
    | cons c r' => simp only [parN_fuel f g r' _ (by simp at hf; omega) (by simp at hg; omega)]
def parM (r : List UInt8) (acc : List Pt) : Option (List Pt) := parN (r.length + 1) r acc
theorem parM_cons (x : UInt8) (r : List UInt8) (acc : List Pt) : parM (x :: r) acc =
    if x = 42 then parM r (acc ++ [ptAny])
    else if x = 63 then parM r (acc ++ [ptAll])
    else if x = 92 then match r with
      | [] => none
      | c :: r' => parM r' (acc ++ [ptOne c])
    else if x = 91 then
      if Lib.indexByte r 93 < 0 ∨ r.take (Lib.indexByte r 93).toNat = [] ∨ r.take (Lib.indexByte r 93).toNat = [33] then none
      else parM (r.drop ((Lib.indexByte r 93).toNat + 1)) (acc ++ [ptSet (r.take (Lib.indexByte r 93).toNat)])
    else parM r (acc ++ [ptOne x]) := by
  unfold parM
  rw [List.length_cons]
  have ihd := fun n acc => parN_fuel (r.length + 1) ((r.drop n).length + 1) (r.drop n) acc (by rw [List.length_drop]; omega) (by omega)
  conv => lhs; unfold parN
  simp only [ihd]
  cases r with
  | nil => rfl
  | cons c r' =>
    have e := fun acc => parN_fuel ((c :: r').length + 1) (r'.length + 1) r' acc (by rw [List.length_cons]; omega) (by omega)
    simp only [e]
theorem parM_acc : ∀ (n : Nat) (r : List UInt8) (a acc : List Pt), r.length ≤ n → parM r (a ++ acc) = (parM r acc).map (a ++ ·)
  | n, [], a, acc, _ => rfl
  | 0, x :: r, a, acc, h => by simp at h
  | n + 1, x :: r, a, acc, h => by
    rw [List.length_cons] at h
    have ih := fun y => parM_acc n r a (acc ++ y) (by omega)
    have ihd := fun k y => parM_acc n (r.drop k) a (acc ++ y) (by rw [List.length_drop]; omega)
    rw [parM_cons, parM_cons]
    simp only [List.append_assoc, ih, ihd]
    split
    · rfl
    · split
      · rfl
      · split
        · cases r with
          | nil => rfl
          | cons c r' => exact parM_acc n r' a (acc ++ [ptOne c]) (by simp at h; omega)
        · split
          · split <;> rfl
          · rfl
theorem index_app (r q : List UInt8) (c : UInt8) (h : 0 ≤ Lib.indexByte r c) : Lib.indexByte (r ++ q) c = Lib.indexByte r c := by
  induction r with
  | nil => simp [Lib.indexByte] at h
  | cons b r ih =>
    simp only [List.cons_append, Lib.indexByte] at h ⊢
    split
    · rfl
    · rename_i hb
      rw [if_neg hb] at h
      have hge : 0 ≤ Lib.indexByte r c := by
        have hg := Lib.indexByte_ge r c
        by_cases e : Lib.indexByte r c = -1
        · rw [e] at h
          simp at h
        · omega
      rw [ih hge]
theorem parM_app : ∀ (n : Nat) (p q : List UInt8) (acc out : List Pt), p.length ≤ n → parM p acc = some out → parM (p ++ q) acc = parM q out
  | n, [], q, acc, out, _, h => by
    have : acc = out := by injection h
    subst this
    rfl
  | 0, x :: r, q, acc, out, hn, _ => by simp at hn
  | n + 1, x :: r, q, acc, out, hn, h => by
    rw [List.length_cons] at hn
    have ih := fun acc => parM_app n r q acc out (by omega)
    rw [List.cons_append, parM_cons]
    rw [parM_cons] at h
    by_cases h1 : x = 42
    · rw [if_pos h1] at h ⊢
      exact ih _ h
    · rw [if_neg h1] at h ⊢
      by_cases h2 : x = 63
      · rw [if_pos h2] at h ⊢
        exact ih _ h
      · rw [if_neg h2] at h ⊢
        by_cases h3 : x = 92
        · rw [if_pos h3] at h ⊢
          cases r with
          | nil => cases h
          | cons c r' => exact parM_app n r' q _ out (by simp at hn; omega) h
        · rw [if_neg h3] at h ⊢
          by_cases h4 : x = 91
          · rw [if_pos h4] at h ⊢
            split at h
            · cases h
            · rename_i hx
              have hge : 0 ≤ Lib.indexByte r 93 := by
                apply Classical.byContradiction
                intro hlt
                exact hx (.inl (by omega))
              have hlt := index_lt r 93
              rw [index_app r q 93 hge, List.take_append_of_le_length (by omega), if_neg hx, List.drop_append_of_le_length (by omega)]
              exact parM_app n _ q _ out (by rw [List.length_drop]; omega) h
          · rw [if_neg h4] at h ⊢
            exact ih _ h
theorem parO_M (p : List UInt8) : parO p = parM p [] := rfl
theorem parE_zero {p : List UInt8} (h : parE p = 0) : p.length ≤ 200 ∧ parM p [] = some (parL p) := by
  unfold parE at h
  split at h
  · cases h
  · rename_i hl
    refine ⟨by omega, ?_⟩
    unfold parL
    rw [if_neg hl]
    cases hp : parO p with
    | none => rw [hp] at h; cases h
    | some out => rw [← parO_M, hp]; rfl
theorem parE_of {p : List UInt8} {out : List Pt} (hl : p.length ≤ 200) (h : parM p [] = some out) : parE p = 0 ∧ parL p = out := by
  unfold parE parL
  rw [if_neg (by omega), if_neg (by omega), parO_M, h]
  exact ⟨rfl, rfl⟩
theorem par_app {p q : List UInt8} (hp : parE p = 0) (hq : parE q = 0) (hl : (p ++ q).length ≤ 200) : parE (p ++ q) = 0 ∧ parL (p ++ q) = parL p ++ parL q := by
  obtain ⟨_, h1⟩ := parE_zero hp
  obtain ⟨_, h2⟩ := parE_zero hq
  refine parE_of hl ?_
  rw [parM_app p.length p q [] _ (Nat.le_refl _) h1]
  have := parM_acc q.length q (parL p) [] (Nat.le_refl _)
  rw [List.append_nil, h2] at this
  exact this
/-! ### The laws -/
theorem fitB_ok {p s : List UInt8} (h : parE p = 0) : fitB p s = mt (atL p) s := by
  unfold fitB
  rw [h, fit_mt]
  rfl
theorem fitB_true {p s : List UInt8} (h : fitB p s = true) : parE p = 0 ∧ mt (atL p) s = true := by
  unfold fitB at h
  rw [Bool.and_eq_true, beq_iff_eq, fit_mt] at h
  exact h
theorem fit_both {p q s t : List UInt8} (hl : (p ++ q).length ≤ 200) (h1 : fitB p s = true) (h2 : fitB q t = true) : fitB (p ++ q) (s ++ t) = true := by
  obtain ⟨a1, a2⟩ := fitB_true h1
  obtain ⟨b1, b2⟩ := fitB_true h2
  obtain ⟨c1, c2⟩ := par_app a1 b1 hl
  rw [fitB_ok c1]
  unfold atL at *
  rw [c2, List.map_append]
  exact mt_app _ _ _ _ a2 b2
theorem star_par : parE [42] = 0 ∧ parL [42] = [ptAny] := ⟨by decide, by decide⟩
theorem fit_star (s : List UInt8) : fitB [42] s = true := by
  rw [fitB_ok star_par.1]
  unfold atL
  rw [star_par.2]
  exact mt_star s
theorem fit_nil (s : List UInt8) : fitB [] s = (s.length == 0) := by
  rw [fitB_ok (by decide)]
  cases s <;> rfl
theorem fit_span {p s : List UInt8} (hl : p.length ≤ 198) (h : parE p = 0) : (spB p s).2.2 = fitB ([42] ++ p ++ [42]) s := by
  obtain ⟨c1, c2⟩ := par_app star_par.1 h (by simp; omega)
  obtain ⟨d1, d2⟩ := par_app c1 star_par.1 (by simp; omega)
  rw [fitB_ok d1, Bool.eq_iff_iff]
  unfold spB
  rw [h, if_pos (by decide), sp_is]
  unfold atL
  rw [d2, c2, star_par.2, ← mt_in]
  simp
def plB (p : List UInt8) : Bool := p.all fun x => x != 42 && x != 63 && x != 91 && x != 92
theorem plain_par : ∀ (p : List UInt8) (acc : List Pt), plB p = true → parM p acc = some (acc ++ p.map ptOne)
  | [], acc, _ => by rw [List.map_nil, List.append_nil]; rfl
  | x :: p, acc, h => by
    unfold plB at h
    rw [List.all_cons, Bool.and_eq_true] at h
    obtain ⟨h1, h2⟩ := h
    simp only [Bool.and_eq_true, bne_iff_ne, ne_eq] at h1
    obtain ⟨⟨⟨a1, a2⟩, a3⟩, a4⟩ := h1
    rw [parM_cons, if_neg a1, if_neg a2, if_neg a4, if_neg a3, plain_par p _ h2]
    simp
theorem plain_mt : ∀ (p s : List UInt8), mt ((p.map ptOne).map atP) s = (p == s)
  | [], [] => rfl
  | [], c :: s => rfl
  | x :: p, [] => rfl
  | x :: p, c :: s => by
    rw [List.map_cons, List.map_cons, mt_one rfl]
    show (upd (fun _ => false) x.toNat true c.toNat && mt ((p.map ptOne).map atP) s) = _
    rw [plain_mt p s]
    show _ = (x == c && p == s)
    congr 1
    unfold upd
    rw [Bool.eq_iff_iff]
    by_cases h : c.toNat = x.toNat
    · rw [if_pos h]
      have : c = x := UInt8.toNat_inj.1 h
      simp [this]
    · rw [if_neg h]
      have : x ≠ c := fun e => h (by rw [e])
      simp [this]
theorem fit_plain {p s : List UInt8} (hl : p.length ≤ 200) (h : plB p = true) : fitB p s = (p == s) := by
  obtain ⟨c1, c2⟩ := parE_of hl (plain_par p [] h)
  rw [fitB_ok c1]
  unfold atL
  rw [c2, List.nil_append]
  exact plain_mt p s
/-! ### The walk -/
theorem plB_succ (p : List UInt8) {k : Nat} (h : k < p.length) : plB (p.take (k + 1)) = (plB (p.take k) && (p.getD k 0 != 42 && p.getD k 0 != 63 && p.getD k 0 != 91 && p.getD k 0 != 92)) := by
  unfold plB
  rw [take_succ_getD h, List.all_append]
  simp
  rfl
theorem u8ne (x c : UInt8) : ((x.toNat : Int) != (c.toNat : Int)) = (x != c) := by
  rw [Bool.eq_iff_iff, bne_iff_ne, bne_iff_ne]
  constructor
  · intro h e; subst e; exact h rfl
  · intro h e; exact h (UInt8.toNat_inj.1 (by omega))
set_option maxHeartbeats 4000000 in
theorem FindBoth_walk (p q s t : List UInt8) : PC Try.prog 5 [iS p, iS q, iS s, iS t] [] 0 900 (fun t obs => t = iB true ∧ obs = []) := by
  refine PC.body [8] Try.func5 rfl (by rfl) (Nat.le_of_ble_eq_true (by rfl)) rfl ?_; simp only [enumA]
  ((repeat refine PWp.seq ?_); refine PWp.region TT (by rfl) (fun K hK => ?_); simp only [push_cast, seval, Nat.reduceEqDiff, Nat.reduceLeDiff, reduceCtorEq]; (repeat refine sk ?_); refine hK _ ?_; clear hK K)
  ((repeat refine PWp.seq ?_); refine PWp.region TT (by rfl) (fun K hK => ?_); simp only [push_cast, seval, Nat.reduceEqDiff, Nat.reduceLeDiff, reduceCtorEq])
  ((repeat refine sk ?_); refine PCall.quse (few34_q p) (by simp [push_cast]) (by simp [push_cast]) ?_)
  (simp only [push_cast, seval, Nat.reduceEqDiff, Nat.reduceLeDiff, reduceCtorEq])
  ((repeat refine sk ?_); refine PCall.quse (few34_q q) (by simp [push_cast]) (by simp [push_cast]) ?_)
  (simp only [push_cast, seval, Nat.reduceEqDiff, Nat.reduceLeDiff, reduceCtorEq])
  ((repeat refine sk ?_); refine PCall.quse (few34_q s) (by simp [push_cast]) (by simp [push_cast]) ?_)
  (simp only [push_cast, seval, Nat.reduceEqDiff, Nat.reduceLeDiff, reduceCtorEq])
  ((repeat refine sk ?_); refine PCall.quse (few34_q t) (by simp [push_cast]) (by simp [push_cast]) ?_)
  (simp only [push_cast, seval, Nat.reduceEqDiff, Nat.reduceLeDiff, reduceCtorEq]; (repeat refine sk ?_); refine hK _ ?_; clear hK K)
  have hp := few34_len p
  have hq := few34_len q
  have hs := few34_len s
  have ht := few34_len t
  generalize p.take 40 = p at *
  generalize q.take 40 = q at *
  generalize s.take 40 = s at *
  generalize t.take 40 = t at *
  refine PWp.gh (st' := ⟨[(0, iS p), (1, iS q), (2, iS s), (3, iS t)], [], 0⟩) (Gh.le (by simp [push_cast, -List.getD_eq_getElem?_getD]) (by simp)) ?_
  ((repeat refine PWp.seq ?_); refine PWp.region TT (by rfl) (fun K hK => ?_); simp only [push_cast, seval, Nat.reduceEqDiff, Nat.reduceLeDiff, reduceCtorEq]; (repeat refine sk ?_); refine hK _ ?_; clear hK K)
  ((repeat refine PWp.seq ?_); refine PWp.region TT (by rfl) (fun K hK => ?_); simp only [push_cast, seval, Nat.reduceEqDiff, Nat.reduceLeDiff, reduceCtorEq]; (repeat refine sk ?_); refine hK _ ?_; clear hK K)
  ((repeat refine PWp.seq ?_); refine PWp.block ?_)
  refine PWp.loop (fun d st => ∃ k : Nat, d = p.length - k ∧ k ≤ p.length ∧
    st = ⟨[(0, iS p), (1, iS q), (2, iS s), (3, iS t), (9, iB (plB (p.take k))), (10, iI k)], [], 0⟩) _ _ ⟨0, rfl, Nat.zero_le _, rfl⟩ (Gh.le (by simp [push_cast, -List.getD_eq_getElem?_getD, plB]) (by simp)) ?_
  rintro d st ⟨k, rfl, hk, rfl⟩
  ((repeat refine PWp.seq ?_); refine PWp.region TT (by rfl) (fun K hK => ?_); simp only [push_cast, seval, Nat.reduceEqDiff, Nat.reduceLeDiff, reduceCtorEq]; (repeat refine sk ?_); refine hK _ ?_; clear hK K)
  ((repeat refine PWp.seq ?_); refine PWp.cond (by simp only [push_cast, seval, Nat.reduceEqDiff, Nat.reduceLeDiff, reduceCtorEq]; rfl) (fun hc => ?_) (fun hc => ?_))
  · have hlt : k < p.length := by simp at hc; omega
    clear hc
    have hsu := plB_succ p hlt
    have n1 : (((p.getD k 0).toNat : Int) != 42) = (p.getD k 0 != 42) := u8ne (p.getD k 0) 42
    have n2 : (((p.getD k 0).toNat : Int) != 63) = (p.getD k 0 != 63) := u8ne (p.getD k 0) 63
    have n3 : (((p.getD k 0).toNat : Int) != 91) = (p.getD k 0 != 91) := u8ne (p.getD k 0) 91
    have n4 : (((p.getD k 0).toNat : Int) != 92) = (p.getD k 0 != 92) := u8ne (p.getD k 0) 92
    ((repeat refine PWp.seq ?_); refine PWp.skip ?_)
    ((repeat refine PWp.seq ?_); refine PWp.block ?_)
    ((repeat refine PWp.seq ?_); refine PWp.region TT (by rfl) (fun K hK => ?_); simp only [push_cast, seval, Nat.reduceEqDiff, Nat.reduceLeDiff, reduceCtorEq]; (repeat refine sk ?_); refine hK _ ?_; clear hK K)
    ((repeat refine PWp.seq ?_); refine PWp.region TT (by rfl) (fun K hK => ?_); simp only [push_cast, seval, Nat.reduceEqDiff, Nat.reduceLeDiff, reduceCtorEq, wrap64_id (n := (k : Int) + 1) (by omega) (by omega)]; (repeat refine sk ?_); refine hK _ ?_; clear hK K)
    refine ⟨_, _, ?_, ⟨k + 1, rfl, by omega, rfl⟩, Gh.le (by simp [push_cast, -List.getD_eq_getElem?_getD, n1, n2, n3, n4, hsu, Bool.and_assoc]) (by simp)⟩
    omega
  · have hk' : k = p.length := by simp at hc; omega
    subst hk'
    rw [List.take_length]
    clear hc
    have hfs := fit_star s
    have hfn := fit_nil s
    have hfp : plB p = true → fitB p s = (p == s) := fun h => fit_plain (by omega) h
    have hsl : (fitB [] s == ((s.length : Int) == 0)) = true := by
      rw [hfn]
      cases s with
      | nil => rfl
      | cons c s =>
        have h1 : ((c :: s).length == 0) = false := rfl
        have h2 : (((c :: s).length : Int) == 0) = false := beq_eq_false_iff_ne.2 (by simp; omega)
        rw [h1, h2]
        rfl
    have hsp : parE p = 0 → (spB p s).2.2 = fitB (42 :: (p ++ [42])) s := fun h => fit_span (by omega) h
    have hpq : fitB p s = true → fitB q t = true → fitB (p ++ q) (s ++ t) = true := fun h1 h2 => fit_both (by rw [List.length_append]; omega) h1 h2
    (repeat refine PWp.seq ?_); refine PWp.exit (iteT rfl ?_)
    cases hpl : plB p
    case' true =>
      have hf := hfp hpl
      ((repeat refine PWp.seq ?_); refine PWp.region TT (by rfl) (fun K hK => ?_); simp only [push_cast, seval, Nat.reduceEqDiff, Nat.reduceLeDiff, reduceCtorEq, hpl])
      ((repeat refine sk ?_); refine PCall.use (find_Fits p s (by omega) (by omega)) [] rfl (by simp [push_cast]) (by simp) (by simp [push_cast]) (by simp [push_cast]) (by simp [push_cast]) (by simp [push_cast]) ?_)
      rintro _ _ ⟨rfl, rfl⟩
      (simp only [push_cast, seval, Nat.reduceEqDiff, Nat.reduceLeDiff, reduceCtorEq, hf, bne_self_eq_false])
      ((repeat refine sk ?_); refine PCall.use (find_Fits [42] s (by simp) (by omega)) [] rfl (by simp [push_cast]) (by simp) (by simp [push_cast]) (by simp [push_cast]) (by simp [push_cast]) (by simp [push_cast]) ?_)
      rintro _ _ ⟨rfl, rfl⟩
      (simp only [push_cast, seval, Nat.reduceEqDiff, Nat.reduceLeDiff, reduceCtorEq, hfs])
      ((repeat refine sk ?_); refine PCall.use (find_Fits [] s (by simp) (by omega)) [] rfl (by simp [push_cast]) (by simp) (by simp [push_cast]) (by simp [push_cast]) (by simp [push_cast]) (by simp [push_cast]) ?_)
      rintro _ _ ⟨rfl, rfl⟩
      (simp only [push_cast, seval, Nat.reduceEqDiff, Nat.reduceLeDiff, reduceCtorEq, hsl]; (repeat refine sk ?_); refine hK _ ?_; clear hK K)
      ((repeat refine PWp.seq ?_); refine PWp.cond (by simp only [push_cast, seval, Nat.reduceEqDiff, Nat.reduceLeDiff, reduceCtorEq]; rfl) (fun hc => ?_) (fun hc => ?_))
      cases hc
      ((repeat refine PWp.seq ?_); refine PWp.skip ?_)
      refine PWp.gh (st' := ⟨[(0, iS p), (1, iS q), (2, iS s), (3, iS t)], [], 0⟩) (Gh.le (by simp [push_cast, -List.getD_eq_getElem?_getD]) (by simp)) ?_
      clear hc hpl hf
    case' false =>
      ((repeat refine PWp.seq ?_); refine PWp.region TT (by rfl) (fun K hK => ?_); simp only [push_cast, seval, Nat.reduceEqDiff, Nat.reduceLeDiff, reduceCtorEq, hpl])
      ((repeat refine sk ?_); refine PCall.use (find_Fits [42] s (by simp) (by omega)) [] rfl (by simp [push_cast]) (by simp) (by simp [push_cast]) (by simp [push_cast]) (by simp [push_cast]) (by simp [push_cast]) ?_)
      rintro _ _ ⟨rfl, rfl⟩
      (simp only [push_cast, seval, Nat.reduceEqDiff, Nat.reduceLeDiff, reduceCtorEq, hfs])
      ((repeat refine sk ?_); refine PCall.use (find_Fits [] s (by simp) (by omega)) [] rfl (by simp [push_cast]) (by simp) (by simp [push_cast]) (by simp [push_cast]) (by simp [push_cast]) (by simp [push_cast]) ?_)
      rintro _ _ ⟨rfl, rfl⟩
      (simp only [push_cast, seval, Nat.reduceEqDiff, Nat.reduceLeDiff, reduceCtorEq, hsl]; (repeat refine sk ?_); refine hK _ ?_; clear hK K)
      ((repeat refine PWp.seq ?_); refine PWp.cond (by simp only [push_cast, seval, Nat.reduceEqDiff, Nat.reduceLeDiff, reduceCtorEq]; rfl) (fun hc => ?_) (fun hc => ?_))
      cases hc
      ((repeat refine PWp.seq ?_); refine PWp.skip ?_)
      refine PWp.gh (st' := ⟨[(0, iS p), (1, iS q), (2, iS s), (3, iS t)], [], 0⟩) (Gh.le (by simp [push_cast, -List.getD_eq_getElem?_getD]) (by simp)) ?_
      clear hc hpl
    all_goals
      ((repeat refine PWp.seq ?_); refine PWp.region TT (by rfl) (fun K hK => ?_); simp only [push_cast, seval, Nat.reduceEqDiff, Nat.reduceLeDiff, reduceCtorEq])
      ((repeat refine sk ?_); refine PCall.use (find_Check p (by omega)) [] rfl (by simp [push_cast]) (by simp) (by simp [push_cast]) (by simp [push_cast]) (by simp [push_cast]) (by simp [push_cast]) ?_)
      rintro _ _ ⟨rfl, rfl⟩
      cases he : parE p == 0
      case' false =>
        (simp only [push_cast, seval, Nat.reduceEqDiff, Nat.reduceLeDiff, reduceCtorEq, he]; (repeat refine sk ?_); refine hK _ ?_; clear hK K)
        ((repeat refine PWp.seq ?_); refine PWp.cond (by simp only [push_cast, seval, Nat.reduceEqDiff, Nat.reduceLeDiff, reduceCtorEq]; rfl) (fun hc => ?_) (fun hc => ?_))
        cases hc
        ((repeat refine PWp.seq ?_); refine PWp.skip ?_)
        refine PWp.gh (st' := ⟨[(0, iS p), (1, iS q), (2, iS s), (3, iS t)], [], 0⟩) (Gh.le (by simp [push_cast, -List.getD_eq_getElem?_getD]) (by simp)) ?_
        clear hc he
      case' true =>
        (simp only [push_cast, seval, Nat.reduceEqDiff, Nat.reduceLeDiff, reduceCtorEq, he])
        ((repeat refine sk ?_); refine PCall.use (find_Fits p s (by omega) (by omega)) [] rfl (by simp [push_cast]) (by simp) (by simp [push_cast]) (by simp [push_cast]) (by simp [push_cast]) (by simp [push_cast]) ?_)
        rintro _ _ ⟨rfl, rfl⟩
        cases hf1 : fitB p s
        case' false =>
          (simp only [push_cast, seval, Nat.reduceEqDiff, Nat.reduceLeDiff, reduceCtorEq]; (repeat refine sk ?_); refine hK _ ?_; clear hK K)
          ((repeat refine PWp.seq ?_); refine PWp.cond (by simp only [push_cast, seval, Nat.reduceEqDiff, Nat.reduceLeDiff, reduceCtorEq]; rfl) (fun hc => ?_) (fun hc => ?_))
          cases hc
          ((repeat refine PWp.seq ?_); refine PWp.skip ?_)
          refine PWp.gh (st' := ⟨[(0, iS p), (1, iS q), (2, iS s), (3, iS t)], [], 0⟩) (Gh.le (by simp [push_cast, -List.getD_eq_getElem?_getD]) (by simp)) ?_
          clear hc he
        case' true =>
          (simp only [push_cast, seval, Nat.reduceEqDiff, Nat.reduceLeDiff, reduceCtorEq])
          ((repeat refine sk ?_); refine PCall.use (find_Fits q t (by omega) (by omega)) [] rfl (by simp [push_cast]) (by simp) (by simp [push_cast]) (by simp [push_cast]) (by simp [push_cast]) (by simp [push_cast]) ?_)
          rintro _ _ ⟨rfl, rfl⟩
          cases hf2 : fitB q t
          case' false =>
            (simp only [push_cast, seval, Nat.reduceEqDiff, Nat.reduceLeDiff, reduceCtorEq]; (repeat refine sk ?_); refine hK _ ?_; clear hK K)
            ((repeat refine PWp.seq ?_); refine PWp.cond (by simp only [push_cast, seval, Nat.reduceEqDiff, Nat.reduceLeDiff, reduceCtorEq]; rfl) (fun hc => ?_) (fun hc => ?_))
            cases hc
            ((repeat refine PWp.seq ?_); refine PWp.skip ?_)
            refine PWp.gh (st' := ⟨[(0, iS p), (1, iS q), (2, iS s), (3, iS t)], [], 0⟩) (Gh.le (by simp [push_cast, -List.getD_eq_getElem?_getD]) (by simp)) ?_
            clear hc he
          case' true =>
            have hb := hpq hf1 hf2
            (simp only [push_cast, seval, Nat.reduceEqDiff, Nat.reduceLeDiff, reduceCtorEq])
            ((repeat refine sk ?_); refine PCall.use (find_Fits (p ++ q) (s ++ t) (by rw [List.length_append]; omega) (by rw [List.length_append]; omega)) [] rfl (by simp [push_cast]) (by simp) (by simp [push_cast]) (by simp [push_cast]) (by simp [push_cast]) (by simp [push_cast]) ?_)
            rintro _ _ ⟨rfl, rfl⟩
            (simp only [push_cast, seval, Nat.reduceEqDiff, Nat.reduceLeDiff, reduceCtorEq, hb]; (repeat refine sk ?_); refine hK _ ?_; clear hK K)
            ((repeat refine PWp.seq ?_); refine PWp.cond (by simp only [push_cast, seval, Nat.reduceEqDiff, Nat.reduceLeDiff, reduceCtorEq]; rfl) (fun hc => ?_) (fun hc => ?_))
            cases hc
            ((repeat refine PWp.seq ?_); refine PWp.skip ?_)
            refine PWp.gh (st' := ⟨[(0, iS p), (1, iS q), (2, iS s), (3, iS t)], [], 0⟩) (Gh.le (by simp [push_cast, -List.getD_eq_getElem?_getD]) (by simp)) ?_
            clear hc he
    all_goals
      ((repeat refine PWp.seq ?_); refine PWp.region TT (by rfl) (fun K hK => ?_); simp only [push_cast, seval, Nat.reduceEqDiff, Nat.reduceLeDiff, reduceCtorEq])
      ((repeat refine sk ?_); refine PCall.use (find_Span p s (by omega) (by omega)) [] rfl (by simp [push_cast]) (by simp) (by simp [push_cast]) (by simp [push_cast]) (by simp [push_cast]) (by simp [push_cast]) ?_)
      rintro _ _ ⟨rfl, rfl⟩
      (simp only [push_cast, seval, Nat.reduceEqDiff, Nat.reduceLeDiff, reduceCtorEq]; (repeat refine sk ?_); refine hK _ ?_; clear hK K)
      ((repeat refine PWp.seq ?_); refine PWp.region TT (by rfl) (fun K hK => ?_); simp only [push_cast, seval, Nat.reduceEqDiff, Nat.reduceLeDiff, reduceCtorEq])
      ((repeat refine sk ?_); refine PCall.use (live34) [] rfl (by simp [push_cast]) (by simp) (by simp [push_cast]) (by simp [push_cast]) (by simp [push_cast]) (by simp [push_cast]) ?_)
      rintro _ _ ⟨rfl, rfl⟩
      (simp only [push_cast, seval, Nat.reduceEqDiff, Nat.reduceLeDiff, reduceCtorEq])
      ((repeat refine sk ?_); refine PCall.use (find_Check p (by omega)) [] rfl (by simp [push_cast]) (by simp) (by simp [push_cast]) (by simp [push_cast]) (by simp [push_cast]) (by simp [push_cast]) ?_)
      rintro _ _ ⟨rfl, rfl⟩
      cases hne : parE p != 0
      case' true =>
        (simp only [push_cast, seval, Nat.reduceEqDiff, Nat.reduceLeDiff, reduceCtorEq, hne]; (repeat refine sk ?_); refine hK _ ?_; clear hK K)
      case' false =>
        have he0 : parE p = 0 := by simpa using hne
        have hs0 := hsp he0
        have hl42 : (42 :: (p ++ [42])).length ≤ 9223372036854775807 := by rw [List.length_cons, List.length_append]; simp only [List.length_cons, List.length_nil]; omega
        have hl43 : s.length ≤ 1000000 := by omega
        (simp only [push_cast, seval, Nat.reduceEqDiff, Nat.reduceLeDiff, reduceCtorEq, hne])
        ((repeat refine sk ?_); refine PCall.use (find_Fits (42 :: (p ++ [42])) s hl42 hl43) [] rfl (by simp [push_cast]) (by simp) (by simp [push_cast]) (by simp [push_cast]) (by simp [push_cast]) (by simp [push_cast]) ?_)
        rintro _ _ ⟨rfl, rfl⟩
        (simp only [push_cast, seval, Nat.reduceEqDiff, Nat.reduceLeDiff, reduceCtorEq, hs0, beq_self_eq_true]; (repeat refine sk ?_); refine hK _ ?_; clear hK K)
      all_goals
        ((repeat refine PWp.seq ?_); refine PWp.ret ?_)
        refine ⟨.inr rfl, by omega, _, [], ?_, rfl, rfl⟩
        (simp [push_cast, -List.getD_eq_getElem?_getD])
end Go.Proofs.Ytjlnialglahdoaa
