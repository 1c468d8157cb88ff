/- The match of a text with itself: it is line by line. -/
import Derived.Test.YtjcdmdejhbmoeaaT11
namespace Go.Proofs.Ytjcdmdejhbmoeaa
open Go.PL
set_option maxRecDepth 100000
set_option linter.unusedSimpArgs false
set_option linter.unusedVariables false
def ones (k : Nat) : List Int := List.replicate k 1
theorem ones_succ (k : Nat) : ones (k + 1) = ones k ++ [1] := List.replicate_succ'
theorem ones_length (k : Nat) : (ones k).length = k := List.length_replicate
theorem ref07_Steps_self (a : List Int) (ha : a.length ≤ 400) : PC Try.prog 43 [iN a, iN a] [] 0 9 (fun t obs => t = .iv (.sl 1 ((ones a.length).map encI)) ∧ obs = []) := by
  refine PC.body [4] Try.func43 rfl (by rfl) (Nat.le_of_ble_eq_true (by rfl)) rfl ?_; simp only [enumA]
  ((repeat refine PWp.seq ?_); refine PWp.region TT (by rfl) (fun K hK => ?_); simp only [push_cast, seval, Nat.reduceEqDiff, Nat.reduceLeDiff, reduceCtorEq]; (repeat refine sk ?_); refine hK _ ?_; clear hK K)
  ((repeat refine PWp.seq ?_); refine PWp.region TT (by rfl) (fun K hK => ?_); simp only [push_cast, seval, Nat.reduceEqDiff, Nat.reduceLeDiff, reduceCtorEq]; (repeat refine sk ?_); refine hK _ ?_; clear hK K)
  ((repeat refine PWp.seq ?_); refine PWp.region TT (by rfl) (fun K hK => ?_); simp only [push_cast, seval, Nat.reduceEqDiff, Nat.reduceLeDiff, reduceCtorEq]; (repeat refine sk ?_); refine hK _ ?_; clear hK K)
  ((repeat refine PWp.seq ?_); refine PWp.cond (by simp only [push_cast, seval, Nat.reduceEqDiff, Nat.reduceLeDiff, reduceCtorEq]; rfl) (fun hc => ?_) (fun hc => ?_))
  · exfalso
    simp at hc
    omega
  · clear hc
    ((repeat refine PWp.seq ?_); refine PWp.skip ?_)
    ((repeat refine PWp.seq ?_); refine PWp.region TT (by rfl) (fun K hK => ?_); simp only [push_cast, seval, Nat.reduceEqDiff, Nat.reduceLeDiff, reduceCtorEq])
    ((repeat refine sk ?_); refine PCall.use (ref07_Table a a ha ha) [] rfl (by simp [push_cast]) (by simp) (by simp [push_cast]) (by simp [push_cast]) (by simp [push_cast]) (by simp [push_cast]) ?_)
    rintro _ _ ⟨⟨T, hT, rfl⟩, rfl⟩
    unfold iTab
    (simp only [push_cast, seval, Nat.reduceEqDiff, Nat.reduceLeDiff, reduceCtorEq]; (repeat refine sk ?_); refine hK _ ?_; clear hK K)
    ((repeat refine PWp.seq ?_); refine PWp.region TT (by rfl) (fun K hK => ?_); simp only [push_cast, seval, Nat.reduceEqDiff, Nat.reduceLeDiff, reduceCtorEq]; (repeat refine sk ?_); refine hK _ ?_; clear hK K)
    ((repeat refine PWp.seq ?_); refine PWp.region TT (by rfl) (fun K hK => ?_); simp only [push_cast, seval, Nat.reduceEqDiff, Nat.reduceLeDiff, reduceCtorEq]; (repeat refine sk ?_); refine hK _ ?_; clear hK K)
    ((repeat refine PWp.seq ?_); refine PWp.block ?_)
    refine PWp.loop (fun c st => ∃ i : Nat, c = a.length - i ∧ i ≤ a.length ∧
      st = ⟨[(0, iN a), (1, iN a), (5, .acc 0 1 ((ones i).map encI)), (6, .iv (.sl 1 (T.map fun r => .sl 1 (r.map encI)))), (7, iI i), (8, iI i)], [(0, .row 79 1)], 1⟩) _ _ ⟨0, rfl, Nat.zero_le _, rfl⟩ (Gh.le (by simp [push_cast, -List.getD_eq_getElem?_getD, ones]) (by simp)) ?_
    rintro c st ⟨i, rfl, hi, rfl⟩
    ((repeat refine PWp.seq ?_); refine PWp.region TT (by rfl) (fun K hK => ?_); simp only [push_cast, seval, Nat.reduceEqDiff, Nat.reduceLeDiff, reduceCtorEq]; (repeat refine sk ?_); refine hK _ ?_; clear hK K)
    ((repeat refine PWp.seq ?_); refine PWp.cond (by simp only [push_cast, seval, Nat.reduceEqDiff, Nat.reduceLeDiff, reduceCtorEq]; rfl) (fun hc => ?_) (fun hc => ?_))
    · have hia : i < a.length := by simp at hc; omega
      clear hc
      have hs := ones_succ i
      have hl := ones_length i
      have hd1 : decide ((i : Int) < (a.length : Int)) = true := decide_eq_true (by omega)
      ((repeat refine PWp.seq ?_); refine PWp.skip ?_)
      ((repeat refine PWp.seq ?_); refine PWp.block ?_)
      ((repeat refine PWp.seq ?_); refine PWp.draw TT (by kernel_rfl) (by kernel_rfl) (by rfl) (by rfl) (fun K hK => ?_); simp only [push_cast, seval, Nat.reduceEqDiff, Nat.reduceLeDiff, reduceCtorEq, hd1, getD_map hia]; (repeat refine sk ?_); refine hK _ ?_; clear hK K)
      ((repeat refine PWp.seq ?_); refine PWp.cond (by simp only [push_cast, seval, Nat.reduceEqDiff, Nat.reduceLeDiff, reduceCtorEq]; rfl) (fun hc => ?_) (fun hc => ?_))
      · clear hc
        ((repeat refine PWp.seq ?_); refine PWp.region TT (by rfl) (fun K hK => ?_); simp only [push_cast, seval, Nat.reduceEqDiff, Nat.reduceLeDiff, reduceCtorEq]; (repeat refine sk ?_); refine hK _ ?_; clear hK K)
        ((repeat refine PWp.seq ?_); refine PWp.region TT (by rfl) (fun K hK => ?_); simp only [push_cast, seval, Nat.reduceEqDiff, Nat.reduceLeDiff, reduceCtorEq, wrap64_id (n := (i : Int) + 1) (by omega) (by omega)]; (repeat refine sk ?_); refine hK _ ?_; clear hK K)
        ((repeat refine PWp.seq ?_); refine PWp.region TT (by rfl) (fun K hK => ?_); simp only [push_cast, seval, Nat.reduceEqDiff, Nat.reduceLeDiff, reduceCtorEq, wrap64_id (n := (i : Int) + 1) (by omega) (by omega)]; (repeat refine sk ?_); refine hK _ ?_; clear hK K)
        refine ⟨_, _, ?_, ⟨i + 1, rfl, by omega, rfl⟩, Gh.le (by simp [push_cast, -List.getD_eq_getElem?_getD, hs]) (by simp)⟩
        omega
      · exfalso
        simp at hc
    · have hij : i = a.length := by simp at hc; omega
      subst hij
      (repeat refine PWp.seq ?_); refine PWp.exit (iteT rfl ?_)
      ((repeat refine PWp.seq ?_); refine PWp.region TT (by rfl) (fun K hK => ?_); simp only [push_cast, seval, Nat.reduceEqDiff, Nat.reduceLeDiff, reduceCtorEq]; (repeat refine sk ?_); refine hK _ ?_; clear hK K)
      ((repeat refine PWp.seq ?_); refine PWp.ret ?_)
      refine ⟨.inr rfl, by omega, _, [], ?_, rfl, rfl⟩
      (simp [push_cast, -List.getD_eq_getElem?_getD])
def idP (n : Nat) : List (Int × Int) := (List.range n).map fun i : Nat => ((i : Int), (i : Int))
theorem idP_succ (n : Nat) : idP (n + 1) = idP n ++ [((n : Int), (n : Int))] := by simp [idP, List.range_succ]
theorem idP_length (n : Nat) : (idP n).length = n := by simp [idP]
theorem ones_getD {n k : Nat} (h : k < n) : (ones n).getD k default = 1 := by simp [ones, List.getD, h]
theorem ref07_Pairs_self (a : List Int) (ha : a.length ≤ 400) : PC Try.prog 28 [iN a, iN a] [] 0 19 (fun t obs => t = .iv (.sl 2 ((idP a.length).map encP)) ∧ obs = []) := by
  refine PC.body [4] Try.func28 rfl (by rfl) (Nat.le_of_ble_eq_true (by rfl)) rfl ?_; simp only [enumA]
  ((repeat refine PWp.seq ?_); refine PWp.region TT (by rfl) (fun K hK => ?_); simp only [push_cast, seval, Nat.reduceEqDiff, Nat.reduceLeDiff, reduceCtorEq]; (repeat refine sk ?_); refine hK _ ?_; clear hK K)
  ((repeat refine PWp.seq ?_); refine PWp.region TT (by rfl) (fun K hK => ?_); simp only [push_cast, seval, Nat.reduceEqDiff, Nat.reduceLeDiff, reduceCtorEq]; (repeat refine sk ?_); refine hK _ ?_; clear hK K)
  ((repeat refine PWp.seq ?_); refine PWp.region TT (by rfl) (fun K hK => ?_); simp only [push_cast, seval, Nat.reduceEqDiff, Nat.reduceLeDiff, reduceCtorEq])
  ((repeat refine sk ?_); refine PCall.use (ref07_Steps_self a ha) [] rfl (by simp [push_cast]) (by simp) (by simp [push_cast]) (by simp [push_cast]) (by simp [push_cast]) (by simp [push_cast]) ?_)
  rintro _ _ ⟨rfl, rfl⟩
  (simp only [push_cast, seval, Nat.reduceEqDiff, Nat.reduceLeDiff, reduceCtorEq]; (repeat refine sk ?_); refine hK _ ?_; clear hK K)
  ((repeat refine PWp.seq ?_); refine PWp.region TT (by rfl) (fun K hK => ?_); simp only [push_cast, seval, Nat.reduceEqDiff, Nat.reduceLeDiff, reduceCtorEq]; (repeat refine sk ?_); refine hK _ ?_; clear hK K)
  ((repeat refine PWp.seq ?_); refine PWp.region TT (by rfl) (fun K hK => ?_); simp only [push_cast, seval, Nat.reduceEqDiff, Nat.reduceLeDiff, reduceCtorEq]; (repeat refine sk ?_); refine hK _ ?_; clear hK K)
  ((repeat refine PWp.seq ?_); refine PWp.region TT (by rfl) (fun K hK => ?_); simp only [push_cast, seval, Nat.reduceEqDiff, Nat.reduceLeDiff, reduceCtorEq]; (repeat refine sk ?_); refine hK _ ?_; clear hK K)
  ((repeat refine PWp.seq ?_); refine PWp.block ?_)
  refine PWp.loop (fun c st => ∃ k : Nat, c = a.length - k ∧ k ≤ a.length ∧
    st = ⟨[(5, .acc 0 2 ((idP k).map encP)), (6, .iv (.sl 1 ((ones a.length).map encI))), (7, iI k), (8, iI k), (9, iI k)], [(0, .row 52 2)], 1⟩) _ _ ⟨0, rfl, Nat.zero_le _, rfl⟩ (Gh.le (by simp [push_cast, -List.getD_eq_getElem?_getD, idP]) (by simp)) ?_
  rintro c st ⟨k, rfl, hk, rfl⟩
  have hol := ones_length a.length
  ((repeat refine PWp.seq ?_); refine PWp.region TT (by rfl) (fun K hK => ?_); simp only [push_cast, seval, Nat.reduceEqDiff, Nat.reduceLeDiff, reduceCtorEq, hol]; (repeat refine sk ?_); refine hK _ ?_; clear hK K)
  ((repeat refine PWp.seq ?_); refine PWp.cond (by simp only [push_cast, seval, Nat.reduceEqDiff, Nat.reduceLeDiff, reduceCtorEq]; rfl) (fun hc => ?_) (fun hc => ?_))
  · have hlt : k < a.length := by simpa using hc
    clear hc
    have hgS : ((ones a.length).map encI).getD k .any = encI 1 := by rw [getD_map (by omega), ones_getD hlt]
    have hs := idP_succ k
    have hl := idP_length k
    ((repeat refine PWp.seq ?_); refine PWp.skip ?_)
    ((repeat refine PWp.seq ?_); refine PWp.block ?_)
    ((repeat refine PWp.seq ?_); refine PWp.region TT (by rfl) (fun K hK => ?_); simp only [push_cast, seval, Nat.reduceEqDiff, Nat.reduceLeDiff, reduceCtorEq, hgS, hol]; (repeat refine sk ?_); refine hK _ ?_; clear hK K)
    ((repeat refine PWp.seq ?_); refine PWp.cond (by simp only [push_cast, seval, Nat.reduceEqDiff, Nat.reduceLeDiff, reduceCtorEq]; rfl) (fun hc => ?_) (fun hc => ?_))
    · clear hc
      ((repeat refine PWp.seq ?_); refine PWp.region TT (by rfl) (fun K hK => ?_); simp only [push_cast, seval, Nat.reduceEqDiff, Nat.reduceLeDiff, reduceCtorEq]; (repeat refine sk ?_); refine hK _ ?_; clear hK K)
      ((repeat refine PWp.seq ?_); refine PWp.region TT (by rfl) (fun K hK => ?_); simp only [push_cast, seval, Nat.reduceEqDiff, Nat.reduceLeDiff, reduceCtorEq, hgS, hol]; (repeat refine sk ?_); refine hK _ ?_; clear hK K)
      ((repeat refine PWp.seq ?_); refine PWp.cond (by simp only [push_cast, seval, Nat.reduceEqDiff, Nat.reduceLeDiff, reduceCtorEq]; rfl) (fun hc => ?_) (fun hc => ?_))
      · clear hc
        ((repeat refine PWp.seq ?_); refine PWp.region TT (by rfl) (fun K hK => ?_); simp only [push_cast, seval, Nat.reduceEqDiff, Nat.reduceLeDiff, reduceCtorEq, wrap64_id (n := (k : Int) + 1) (by omega) (by omega)]; (repeat refine sk ?_); refine hK _ ?_; clear hK K)
        ((repeat refine PWp.seq ?_); refine PWp.region TT (by rfl) (fun K hK => ?_); simp only [push_cast, seval, Nat.reduceEqDiff, Nat.reduceLeDiff, reduceCtorEq, hgS, hol]; (repeat refine sk ?_); refine hK _ ?_; clear hK K)
        ((repeat refine PWp.seq ?_); refine PWp.cond (by simp only [push_cast, seval, Nat.reduceEqDiff, Nat.reduceLeDiff, reduceCtorEq]; rfl) (fun hc => ?_) (fun hc => ?_))
        · clear hc
          ((repeat refine PWp.seq ?_); refine PWp.region TT (by rfl) (fun K hK => ?_); simp only [push_cast, seval, Nat.reduceEqDiff, Nat.reduceLeDiff, reduceCtorEq, wrap64_id (n := (k : Int) + 1) (by omega) (by omega)]; (repeat refine sk ?_); refine hK _ ?_; clear hK K)
          ((repeat refine PWp.seq ?_); refine PWp.region TT (by rfl) (fun K hK => ?_); simp only [push_cast, seval, Nat.reduceEqDiff, Nat.reduceLeDiff, reduceCtorEq, wrap64_id (n := (k : Int) + 1) (by omega) (by omega)]; (repeat refine sk ?_); refine hK _ ?_; clear hK K)
          refine ⟨_, _, ?_, ⟨k + 1, rfl, by omega, rfl⟩, Gh.le (by simp [push_cast, -List.getD_eq_getElem?_getD, hs]) (by simp)⟩
          omega
        · cases hc
      · cases hc
    · cases hc
  · have hk' : k = a.length := by simp at hc; omega
    subst hk'
    (repeat refine PWp.seq ?_); refine PWp.exit (iteT rfl ?_)
    ((repeat refine PWp.seq ?_); refine PWp.region TT (by rfl) (fun K hK => ?_); simp only [push_cast, seval, Nat.reduceEqDiff, Nat.reduceLeDiff, reduceCtorEq]; (repeat refine sk ?_); refine hK _ ?_; clear hK K)
    ((repeat refine PWp.seq ?_); refine PWp.ret ?_)
    refine ⟨.inr rfl, by omega, _, [], ?_, rfl, rfl⟩
    (simp [push_cast, -List.getD_eq_getElem?_getD])
theorem law14_pairs_self (a : List Ln) (ha : a.length ≤ 40) : PC Try.prog 13 [iL a, iL a] [] 0 60 (fun t obs => t = .iv (.sl 2 ((idP a.length).map encP)) ∧ obs = []) := by
  refine PC.body [4] Try.func13 rfl (by rfl) (Nat.le_of_ble_eq_true (by rfl)) rfl ?_; simp only [enumA]
  ((repeat refine PWp.seq ?_); refine PWp.region TT (by rfl) (fun K hK => ?_); simp only [push_cast, seval, Nat.reduceEqDiff, Nat.reduceLeDiff, reduceCtorEq]; (repeat refine sk ?_); refine hK _ ?_; clear hK K)
  ((repeat refine PWp.seq ?_); refine PWp.region TT (by rfl) (fun K hK => ?_); simp only [push_cast, seval, Nat.reduceEqDiff, Nat.reduceLeDiff, reduceCtorEq])
  ((repeat refine sk ?_); refine PCall.use (ref06_Numbers [a, a] (by simp) (by intro l hl; simp at hl; subst hl; omega)) [] rfl (by simp [push_cast, encLs]) (by simp) (by simp [push_cast, encLs]) (by simp [push_cast, encLs]) (by simp [push_cast, encLs]) (by simp [push_cast, encLs]) ?_)
  rintro _ _ ⟨⟨kn, hnd, hin, rfl⟩, rfl⟩
  have la := numL_length kn a
  have e : iNums kn [a, a] = [.sl 1 ((numL kn a).map encI), .sl 1 ((numL kn a).map encI)] := rfl
  rw [e]
  generalize numL kn a = x at *
  (simp only [push_cast, seval, Nat.reduceEqDiff, Nat.reduceLeDiff, reduceCtorEq]; (repeat refine sk ?_); refine hK _ ?_; clear hK K)
  ((repeat refine PWp.seq ?_); refine PWp.drawT TT (by kernel_rfl) [] (.q 0 (.q 1 (.q 2 (.q 3 (.q 4 (.q 5 (.x 6 (.q 7 .nil)))))))) (by rfl) (by kernel_rfl) (by rfl) (by simp) (fun K hK => ?_); simp only [push_cast, seval, Nat.reduceEqDiff, Nat.reduceLeDiff, reduceCtorEq])
  ((repeat refine sk ?_); refine PCall.use (ref07_Pairs_self x (by omega)) [] rfl (by simp [push_cast]) (by simp) (by simp [push_cast]) (by simp [push_cast]) (by simp [push_cast]) (by simp [push_cast]) ?_)
  rintro _ _ ⟨rfl, rfl⟩
  rw [la]
  (simp only [push_cast, seval, Nat.reduceEqDiff, Nat.reduceLeDiff, reduceCtorEq]; (repeat refine sk ?_); refine hK _ ?_; clear hK K)
  ((repeat refine PWp.seq ?_); refine PWp.ret ?_)
  refine ⟨.inr rfl, by omega, _, [], ?_, rfl, rfl⟩
  (simp [push_cast, -List.getD_eq_getElem?_getD])
theorem idP_match (o : List Ln) (ho : o.length ≤ 400) : matchP o o (idP o.length) := by
  have hm : ∀ x ∈ idP o.length, x.1 = x.2 ∧ 0 ≤ x.1 ∧ x.1 < o.length := fun x hx => by
    obtain ⟨i, hi, rfl⟩ := List.mem_map.1 hx
    have hlt : i < o.length := List.mem_range.1 hi
    exact ⟨rfl, Int.natCast_nonneg i, Int.ofNat_lt.2 hlt⟩
  refine ⟨(right_iff _ _ _).2 ⟨fun x hx => ?_, ?_⟩, by rw [idP_length]; exact ho, fun q hq => by rw [(hm q hq).1]⟩
  · have := hm x hx
    omega
  · unfold idP
    rw [List.pairwise_map]
    refine List.Pairwise.imp ?_ List.pairwise_lt_range
    intro a b h
    exact ⟨by simpa using h, by simpa using h⟩
theorem idP_toI {n : Nat} {i j : Int} (h : toI (idP n) i = some j) : j = i := by
  obtain ⟨k, hk, e1, e2⟩ := toI_mem h
  have := getD_mem hk
  obtain ⟨q, _, e⟩ := List.mem_map.1 this
  rw [← e] at e1 e2
  simp only at e1 e2
  omega
theorem next_mem {oa ob : List (Int × Int)} {x y z u : Int} (h : nextO oa ob x y z = some u) : ∃ v w, toI oa u = some v ∧ toI ob u = some w := by
  obtain ⟨hm, _⟩ := minOpt_spec h
  obtain ⟨v, w, h1, h2, _⟩ := cand_mem hm
  exact ⟨v, w, h1, h2⟩
/-- With one side matched with itself its stretches are those of the first text. -/
theorem chunks_id {oa : List (Int × Int)} {n : Nat} {a : Int} : ∀ (f : Nat) (x y : Int), ∀ c ∈ chunksF oa (idP n) n a n f x y x, c.b = c.o ∧ c.bn = c.on
  | 0, x, y, c, h => by simp [chunksF] at h
  | f + 1, x, y, c, h => by
    unfold chunksF at h
    split at h
    · have key : (stepC oa (idP n) n a n x y x).b = (stepC oa (idP n) n a n x y x).o ∧ (stepC oa (idP n) n a n x y x).bn = (stepC oa (idP n) n a n x y x).on ∧ (stepC oa (idP n) n a n x y x).o = x := by
        unfold stepC
        split
        · exact ⟨rfl, rfl, rfl⟩
        · cases hu : nextO oa (idP n) x y x with
          | none => exact ⟨rfl, rfl, rfl⟩
          | some u =>
            obtain ⟨v, w, _, hw⟩ := next_mem hu
            have := idP_toI hw
            simp only [hw, Option.getD_some]
            exact ⟨trivial, by omega, trivial⟩
      rcases List.mem_cons.1 h with rfl | h
      · exact ⟨key.1, key.2.1⟩
      · rw [key.2.1] at h
        exact chunks_id f _ _ c h
    · simp at h
/-- With both others matched alike their stretches are the same. -/
theorem chunks_same {oa : List (Int × Int)} {o a : Int} : ∀ (f : Nat) (x y : Int), ∀ c ∈ chunksF oa oa o a a f x y y, c.b = c.a ∧ c.bn = c.an
  | 0, x, y, c, h => by simp [chunksF] at h
  | f + 1, x, y, c, h => by
    unfold chunksF at h
    split at h
    · have key : (stepC oa oa o a a x y y).b = (stepC oa oa o a a x y y).a ∧ (stepC oa oa o a a x y y).bn = (stepC oa oa o a a x y y).an := by
        unfold stepC
        split
        · exact ⟨rfl, rfl⟩
        · cases nextO oa oa x y y <;> exact ⟨rfl, rfl⟩
      rcases List.mem_cons.1 h with rfl | h
      · exact key
      · rw [key.2] at h
        exact chunks_same f _ _ c h
    · simp at h
theorem seg_drop {l : List Ln} {i n : Int} (h0 : 0 ≤ i) (h1 : 0 ≤ n) : segN l i n ++ l.drop (i + n).toNat = l.drop i.toNat := by
  unfold segN
  have e : (i + n).toNat = i.toNat + n.toNat := by omega
  rw [e, ← List.drop_drop, List.drop_take, show i.toNat + n.toNat - i.toNat = n.toNat by omega, List.take_append_drop]
theorem flat_a {A : List Ln} {o b : Int} (ho : o ≤ 1000000) (ha : A.length ≤ 1000000) (hb : b ≤ 1000000) : ∀ {l : List Pc} {x y z : Int}, 0 ≤ x → x ≤ o → 0 ≤ y → y ≤ A.length → 0 ≤ z → z ≤ b → rightC o A.length b (l.map (·.c)) x y z = true → (l.map fun p => segN A p.c.a p.c.an).flatten = A.drop y.toNat
  | [], x, y, z, x0, x1, y0, y1, z0, z1, h => by
    simp only [List.map_nil, rightC, Bool.and_eq_true, beq_iff_eq] at h
    rw [h.1.2]
    simp
  | d :: l, x, y, z, x0, x1, y0, y1, z0, z1, h => by
    simp only [List.map_cons, rightC, Bool.and_eq_true, decide_eq_true_eq] at h
    obtain ⟨hk, h⟩ := h
    unfold okC at hk
    rw [wrap64_id (n := o - x) (by omega) (by omega), wrap64_id (n := (A.length : Int) - y) (by omega) (by omega), wrap64_id (n := b - z) (by omega) (by omega)] at hk
    rw [wrap64_id (n := x + d.c.on) (by omega) (by omega), wrap64_id (n := y + d.c.an) (by omega) (by omega), wrap64_id (n := z + d.c.bn) (by omega) (by omega)] at h
    have ih := flat_a ho ha hb (by omega) (by omega) (by omega) (by omega) (by omega) (by omega) h
    rw [List.map_cons, List.flatten_cons, ih, hk.2.1, seg_drop (by omega) (by omega)]
theorem evenL_right {l : List Ln} (h : rightB l = true) : evenL l = l := by
  have hr := of_decide_eq_true h
  apply lists_eq (evenL_length l)
  intro i hi
  rw [evenL_length] at hi
  have e : (evenL l).getD i default = ⟨(l.getD i default).t, (l.getD i default).b && decide (i + 1 = l.length)⟩ := by simp [evenL, evenN, List.getD, hi]
  rw [e]
  have := (hr i hi).2
  generalize l.getD i default = x at *
  obtain ⟨t, b⟩ := x
  cases b with
  | false => rfl
  | true =>
    simp only [true_and, not_or] at this
    rw [decide_eq_true (show i + 1 = l.length by omega)]
    rfl
theorem clean_all {l : List Pc} (h : ∀ p ∈ l, p.side ≠ 4) : cleanB l = true := by
  unfold cleanB
  rw [Bool.not_eq_true', ← Bool.not_eq_true, List.any_eq_true]
  rintro ⟨p, hp, hc⟩
  unfold clashB at hc
  exact h p hp (by simpa using hc)
/-- Pieces that have the lines of the first of the others make that text. -/
theorem flat_is {o a b : List Ln} {l : List Pc} (ho : o.length ≤ 40) (ha : a.length ≤ 40) (hb : b.length ≤ 40) (hf : fitsB o a b l = true) (h : ∀ p ∈ l, pieceL o a b p = segN a p.c.a p.c.an) : flatP o a b l = a := by
  have hb0 := hf
  unfold fitsB at hb0
  rw [Bool.and_eq_true] at hb0
  have := flat_a (A := a) (by omega) (by omega) (by omega) (by omega) (by omega) (by omega) (by omega) (by omega) (by omega) hb0.2
  unfold flatP
  rw [List.map_congr_left h, this]
  rfl
theorem one_pieces {o a : List Ln} {oa : List (Int × Int)} (ho : o.length ≤ 400) (ha : a.length ≤ 400) (h1 : matchP o a oa) : ∀ p ∈ mofL o a o oa (idP o.length), pieceL o a o p = segN a p.c.a p.c.an ∧ p.side ≠ 4 := by
  intro p hp
  have h2 := idP_match o ho
  obtain ⟨hs, hin, hst⟩ := mof_good ho ha ho h1 h2 p hp
  have hb : segN o p.c.b p.c.bn = segN o p.c.o p.c.on := by
    rw [(match_mof ho ha ho h1 h2).2] at hp
    unfold pcs at hp
    obtain ⟨c, hc, rfl⟩ := List.mem_map.1 hp
    have hok := match_ok ho ha ho h1 h2
    unfold ofL at hc
    rw [hok, if_pos rfl] at hc
    obtain ⟨e1, e2⟩ := chunks_id _ _ _ c hc
    simp only
    rw [e1, e2]
  unfold sideF at hs
  unfold pieceL
  split at hs
  · rename_i h
    rw [hs, if_neg (by decide), if_neg (by decide)]
    refine ⟨?_, by decide⟩
    rcases h with h | h
    · exact ((hst h).1).symm
    · exact h.symm
  · rename_i h
    split at hs
    · rename_i h3
      exact absurd (.inr (h3.trans hb.symm)) h
    · have hs2 : p.side = 2 := by simpa [hb] using hs
      rw [hs2, if_pos rfl]
      exact ⟨rfl, by decide⟩
theorem same_pieces {o a : List Ln} {oa : List (Int × Int)} (ho : o.length ≤ 400) (ha : a.length ≤ 400) (h1 : matchP o a oa) : ∀ p ∈ mofL o a a oa oa, pieceL o a a p = segN a p.c.a p.c.an ∧ p.side ≠ 4 := by
  intro p hp
  obtain ⟨hs, hin, hst⟩ := mof_good ho ha ha h1 h1 p hp
  have hb : segN a p.c.b p.c.bn = segN a p.c.a p.c.an := by
    rw [(match_mof ho ha ha h1 h1).2] at hp
    unfold pcs at hp
    obtain ⟨c, hc, rfl⟩ := List.mem_map.1 hp
    have hok := match_ok ho ha ha h1 h1
    unfold ofL at hc
    rw [hok, if_pos rfl] at hc
    obtain ⟨e1, e2⟩ := chunks_same _ _ _ c hc
    simp only
    rw [e1, e2]
  unfold sideF at hs
  rw [if_pos (.inr hb.symm)] at hs
  unfold pieceL
  rw [hs, if_neg (by decide), if_neg (by decide)]
  exact ⟨hb, by decide⟩
/-- The merge is the first of the others. -/
theorem merge_is {o a b : List Ln} {l : List Pc} (ho : o.length ≤ 40) (ha : a.length ≤ 40) (hb : b.length ≤ 40) (hr : rightB a = true) (hf : fitsB o a b l = true) (h : ∀ p ∈ l, pieceL o a b p = segN a p.c.a p.c.an ∧ p.side ≠ 4) : lnE l o a b = 0 ∧ lnR l o a b = a := by
  have hc := clean_all fun p hp => (h p hp).2
  have hfl := flat_is ho ha hb hf fun p hp => (h p hp).1
  exact ⟨by unfold lnE; rw [hf, hc]; rfl, by unfold lnR; rw [hf, hc, if_pos rfl, if_pos rfl, hfl, evenL_right hr]⟩
end Go.Proofs.Ytjcdmdejhbmoeaa
