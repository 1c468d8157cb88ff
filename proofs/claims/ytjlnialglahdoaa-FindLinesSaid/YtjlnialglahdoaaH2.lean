/- Strings: prefixes, a byte's first place; the set between brackets. -/
import Derived.Test.YtjlnialglahdoaaH1
import Derived.Lib.Bytealg
import Derived.Laws.Externs
namespace Go.Proofs.Ytjlnialglahdoaa
open Go.PL
set_option maxRecDepth 100000
set_option linter.unusedSimpArgs false
set_option linter.unusedVariables false
theorem HasPrefix (s p : List UInt8) (hs : s.length ≤ 1000000) (hp : p.length ≤ 1000000) : PC Try.prog 46 [iS s, iS p] [] 0 9 (fun t obs => t = iB (decide (p.length ≤ s.length) && (s.take p.length == p)) ∧ obs = []) := by
  refine PC.body [4] Try.func46 rfl (by rfl) (Nat.le_of_ble_eq_true (by rfl)) rfl ?_; simp only [enumA]
  ((repeat refine PWp.seq ?_); refine PWp.region TT (by rfl) (fun K hK => ?_); simp only [push_cast, seval, Nat.reduceEqDiff, Nat.reduceLeDiff, reduceCtorEq]; (repeat refine sk ?_); refine hK _ ?_; clear hK K)
  by_cases h : p.length ≤ s.length
  · have h1 : decide ((s.length : Int) ≥ (p.length : Int)) = true := decide_eq_true (by omega)
    ((repeat refine PWp.seq ?_); refine PWp.region TT (by rfl) (fun K hK => ?_); simp only [push_cast, seval, Nat.reduceEqDiff, Nat.reduceLeDiff, reduceCtorEq, h1]; (repeat refine sk ?_); refine hK _ ?_; clear hK K)
    ((repeat refine PWp.seq ?_); refine PWp.ret ?_)
    refine ⟨.inr rfl, by omega, _, [], ?_, rfl, rfl⟩
    rw [decide_eq_true h, Bool.true_and]
    (simp [push_cast, -List.getD_eq_getElem?_getD])
  · have h1 : decide ((s.length : Int) ≥ (p.length : Int)) = false := decide_eq_false (by omega)
    ((repeat refine PWp.seq ?_); refine PWp.region TT (by rfl) (fun K hK => ?_); simp only [push_cast, seval, Nat.reduceEqDiff, Nat.reduceLeDiff, reduceCtorEq, h1]; (repeat refine sk ?_); refine hK _ ?_; clear hK K)
    ((repeat refine PWp.seq ?_); refine PWp.ret ?_)
    refine ⟨.inr rfl, by omega, _, [], ?_, rfl, rfl⟩
    rw [decide_eq_false h, Bool.false_and]
    (simp [push_cast, -List.getD_eq_getElem?_getD])
def trimF (s p : List UInt8) : List UInt8 := if decide (p.length ≤ s.length) && (s.take p.length == p) then s.drop p.length else s
theorem TrimPrefix2 (s p : List UInt8) (hs : s.length ≤ 1000000) (hp : p.length ≤ 1000000) : PC Try.prog 45 [iS s, iS p] [] 0 19 (fun t obs => t = iS (trimF s p) ∧ obs = []) := by
  refine PC.body [4] Try.func45 rfl (by rfl) (Nat.le_of_ble_eq_true (by rfl)) rfl ?_; simp only [enumA]
  ((repeat refine PWp.seq ?_); refine PWp.region TT (by rfl) (fun K hK => ?_); simp only [push_cast, seval, Nat.reduceEqDiff, Nat.reduceLeDiff, reduceCtorEq]; (repeat refine sk ?_); refine hK _ ?_; clear hK K)
  ((repeat refine PWp.seq ?_); refine PWp.region TT (by rfl) (fun K hK => ?_); simp only [push_cast, seval, Nat.reduceEqDiff, Nat.reduceLeDiff, reduceCtorEq])
  ((repeat refine sk ?_); refine PCall.use (HasPrefix s p hs hp) [] rfl (by simp [push_cast]) (by simp) (by simp [push_cast]) (by simp [push_cast]) (by simp [push_cast]) (by simp [push_cast]) ?_)
  rintro _ _ ⟨rfl, rfl⟩
  (simp only [push_cast, seval, Nat.reduceEqDiff, Nat.reduceLeDiff, reduceCtorEq]; (repeat refine sk ?_); refine hK _ ?_; clear hK K)
  ((repeat refine PWp.seq ?_); refine PWp.cond (by simp only [push_cast, seval, Nat.reduceEqDiff, Nat.reduceLeDiff, reduceCtorEq]; rfl) (fun hc => ?_) (fun hc => ?_))
  · have e : trimF s p = s.drop p.length := by unfold trimF; rw [if_pos hc]
    have hl : p.length ≤ s.length := by
      rw [Bool.and_eq_true] at hc
      exact of_decide_eq_true hc.1
    ((repeat refine PWp.seq ?_); refine PWp.region TT (by rfl) (fun K hK => ?_); simp only [push_cast, seval, Nat.reduceEqDiff, Nat.reduceLeDiff, reduceCtorEq]; (repeat refine sk ?_); refine hK _ ?_; clear hK K)
    ((repeat refine PWp.seq ?_); refine PWp.ret ?_)
    refine ⟨.inr rfl, by omega, _, [], ?_, rfl, rfl⟩
    rw [e]
    (simp [push_cast, -List.getD_eq_getElem?_getD])
  · have e : trimF s p = s := by unfold trimF; rw [hc]; rfl
    ((repeat refine PWp.seq ?_); refine PWp.skip ?_)
    ((repeat refine PWp.seq ?_); refine PWp.region TT (by rfl) (fun K hK => ?_); simp only [push_cast, seval, Nat.reduceEqDiff, Nat.reduceLeDiff, reduceCtorEq]; (repeat refine sk ?_); refine hK _ ?_; clear hK K)
    ((repeat refine PWp.seq ?_); refine PWp.ret ?_)
    refine ⟨.inr rfl, by omega, _, [], ?_, rfl, rfl⟩
    rw [e]
    (simp [push_cast, -List.getD_eq_getElem?_getD])
theorem TrimPrefix1 (s p : List UInt8) (hs : s.length ≤ 1000000) (hp : p.length ≤ 1000000) : PC Try.prog 43 [iS s, iS p] [] 0 29 (fun t obs => t = iS (trimF s p) ∧ obs = []) := by
  refine PC.body [4] Try.func43 rfl (by rfl) (Nat.le_of_ble_eq_true (by rfl)) rfl ?_; simp only [enumA]
  ((repeat refine PWp.seq ?_); refine PWp.region TT (by rfl) (fun K hK => ?_); simp only [push_cast, seval, Nat.reduceEqDiff, Nat.reduceLeDiff, reduceCtorEq]; (repeat refine sk ?_); refine hK _ ?_; clear hK K)
  ((repeat refine PWp.seq ?_); refine PWp.region TT (by rfl) (fun K hK => ?_); simp only [push_cast, seval, Nat.reduceEqDiff, Nat.reduceLeDiff, reduceCtorEq])
  ((repeat refine sk ?_); refine PCall.use (TrimPrefix2 s p hs hp) [] rfl (by simp [push_cast]) (by simp) (by simp [push_cast]) (by simp [push_cast]) (by simp [push_cast]) (by simp [push_cast]) ?_)
  rintro _ _ ⟨rfl, rfl⟩
  (simp only [push_cast, seval, Nat.reduceEqDiff, Nat.reduceLeDiff, reduceCtorEq]; (repeat refine sk ?_); refine hK _ ?_; clear hK K)
  ((repeat refine PWp.seq ?_); refine PWp.ret ?_)
  refine ⟨.inr rfl, by omega, _, [], ?_, rfl, rfl⟩
  (simp [push_cast, -List.getD_eq_getElem?_getD])
theorem IndexByte2 (s : List UInt8) (c : Nat) : PC Try.prog 42 [iS s, iU c] [] 0 0 (fun t obs => t = iI (Lib.indexByte s c.toUInt8) ∧ obs = []) := by
  refine PC.body [4] Try.func42 rfl (by rfl) (Nat.le_of_ble_eq_true (by rfl)) rfl ?_; simp only [enumA]
  ((repeat refine PWp.seq ?_); refine PWp.region TT (by rfl) (fun K hK => ?_); simp only [push_cast, seval, Nat.reduceEqDiff, Nat.reduceLeDiff, reduceCtorEq]; (repeat refine sk ?_); refine hK _ ?_; clear hK K)
  (repeat refine PWp.seq ?_)
  refine PWp.regionX 2 TT rfl rfl (by intro c h; cases h) (by intro i h; cases h; exact Nat.le_of_ble_eq_true (by rfl)) (by rfl) (by rfl) (fun K hK => ?_)
  simp only [push_cast, seval, Nat.reduceEqDiff, Nat.reduceLeDiff, reduceCtorEq, List.take_succ_cons, List.take_zero, List.drop_succ_cons, List.drop_zero]
  refine ⟨.int .i64 (Lib.indexByte s c.toUInt8), fun κ N a h => ?_, ?_⟩
  · have e5 : a.eval (.tmp 5) = .string ⟨s.toArray⟩ := ivlit (h.env 5)
    have e6 : a.eval (.tmp 6) = .int .u8 c := ivlit (h.env 6)
    have ef : a.eval (.func 44) = .func (.func 44) #[] #[] := rfl
    simp only [execOp, resolve, invoke, e5, e6, ef, Deferred.ofValue, List.map_toArray, List.map_cons, List.map_nil, Sem.run_bind, Sem.run_pure, Result.andThen_ok, Array.append_empty, Array.empty_append]
    rw [run_callFunc_extern (f := 44) Try.func44 (by kernel_rfl) (by kernel_rfl) (by kernel_rfl) (e := Extern.BytealgIndexByte.indexByte) (by kernel_rfl), Lib.run_indexByteString]
    simp
  · ((repeat refine sk ?_); refine hK _ ?_; clear hK K)
    ((repeat refine PWp.seq ?_); refine PWp.ret ?_)
    refine ⟨.inr rfl, by omega, _, [], ?_, rfl, rfl⟩
    (simp [push_cast, -List.getD_eq_getElem?_getD])
theorem IndexByte1 (s : List UInt8) (c : Nat) : PC Try.prog 37 [iS s, iU c] [] 0 0 (fun t obs => t = iI (Lib.indexByte s c.toUInt8) ∧ obs = []) := by
  refine PC.body [4] Try.func37 rfl (by rfl) (Nat.le_of_ble_eq_true (by rfl)) rfl ?_; simp only [enumA]
  ((repeat refine PWp.seq ?_); refine PWp.region TT (by rfl) (fun K hK => ?_); simp only [push_cast, seval, Nat.reduceEqDiff, Nat.reduceLeDiff, reduceCtorEq]; (repeat refine sk ?_); refine hK _ ?_; clear hK K)
  ((repeat refine PWp.seq ?_); refine PWp.region TT (by rfl) (fun K hK => ?_); simp only [push_cast, seval, Nat.reduceEqDiff, Nat.reduceLeDiff, reduceCtorEq])
  ((repeat refine sk ?_); refine PCall.use (IndexByte2 s c) [] rfl (by simp [push_cast]) (by simp) (by simp [push_cast]) (by simp [push_cast]) (by simp [push_cast]) (by simp [push_cast]) ?_)
  rintro _ _ ⟨rfl, rfl⟩
  (simp only [push_cast, seval, Nat.reduceEqDiff, Nat.reduceLeDiff, reduceCtorEq]; (repeat refine sk ?_); refine hK _ ?_; clear hK K)
  ((repeat refine PWp.seq ?_); refine PWp.ret ?_)
  refine ⟨.inr rfl, by omega, _, [], ?_, rfl, rfl⟩
  (simp [push_cast, -List.getD_eq_getElem?_getD])
/-! ### The set between brackets -/
/-- The spans of what stands between brackets. -/
def spansF : List UInt8 → List (Nat × Nat)
  | [] => []
  | [a] => [(a.toNat, a.toNat)]
  | [a, b] => [(a.toNat, a.toNat), (b.toNat, b.toNat)]
  | a :: b :: c :: r => if b = 45 then (a.toNat, c.toNat) :: spansF r else (a.toNat, a.toNat) :: spansF (b :: c :: r)
def inSp (sp : List (Nat × Nat)) : Nat → Bool := fun i => sp.any fun p => decide (p.1 ≤ i) && decide (i ≤ p.2)
theorem inSp_app (sp : List (Nat × Nat)) (p : Nat × Nat) (i : Nat) : inSp (sp ++ [p]) i = (inSp sp i || (decide (p.1 ≤ i) && decide (i ≤ p.2))) := by simp [inSp, List.any_append]
def notB (s : List UInt8) : Bool := decide ([(33 : UInt8)].length ≤ s.length) && (s.take [(33 : UInt8)].length == [33])
def classF (s : List UInt8) : At := ⟨false, fun i => inSp (spansF (trimF s [33])) i != notB s⟩
theorem spans_single {a : UInt8} {r : List UInt8} (h : ¬ (2 ≤ r.length ∧ r.getD 0 default = 45)) : spansF (a :: r) = (a.toNat, a.toNat) :: spansF r := by
  match r, h with
  | [], _ => rfl
  | [b], _ => rfl
  | b :: c :: r, h =>
    have hb : ¬ b = 45 := fun e => h ⟨by simp, by simpa using e⟩
    rw [spansF, if_neg hb]
theorem spans_range {a : UInt8} {r : List UInt8} (h : 2 ≤ r.length ∧ r.getD 0 default = 45) : spansF (a :: r) = (a.toNat, (r.getD 1 default).toNat) :: spansF (r.drop 2) := by
  match r, h with
  | [], h => simp at h
  | [b], h => simp at h
  | b :: c :: r, h =>
    have hb : b = 45 := by simpa using h.2
    rw [spansF, if_pos hb]
    rfl
/-- A span, filled up to a place. -/
def fillS (f : Nat → Bool) (a c : Nat) : Nat → Bool := fun i => f i || (decide (a ≤ i) && decide (i < c))
theorem fillS_zero (f : Nat → Bool) (a : Nat) : fillS f a a = f := by
  funext i
  unfold fillS
  have : (decide (a ≤ i) && decide (i < a)) = false := by rw [Bool.and_eq_false_iff, decide_eq_false_iff_not, decide_eq_false_iff_not]; omega
  rw [this, Bool.or_false]
theorem fillS_succ (f : Nat → Bool) {a c : Nat} (h : a ≤ c) : upd (fillS f a c) c true = fillS f a (c + 1) := by
  funext i
  unfold upd fillS
  by_cases e : i = c
  · subst e
    rw [if_pos rfl, decide_eq_true h, decide_eq_true (Nat.lt_succ_self i)]
    simp
  · rw [if_neg e]
    congr 2
    rw [Bool.eq_iff_iff, decide_eq_true_eq, decide_eq_true_eq]
    omega
theorem fillS_all (sp : List (Nat × Nat)) (a b : Nat) (c : Nat) (h1 : c = b + 1 ∨ (b < a ∧ c = a)) : fillS (inSp sp) a c = inSp (sp ++ [(a, b)]) := by
  funext i
  rw [inSp_app]
  unfold fillS
  congr 1
  rw [Bool.eq_iff_iff, Bool.and_eq_true, Bool.and_eq_true, decide_eq_true_eq, decide_eq_true_eq]
  show (a ≤ i ∧ i < c) ↔ ((a ≤ i) ∧ decide (i ≤ b) = true)
  rw [decide_eq_true_eq]
  omega
def flipK (f : Nat → Bool) (k : Nat) : Nat → Bool := fun i => if i < k then !f i else f i
theorem flipK_succ (f : Nat → Bool) (k : Nat) : upd (flipK f k) k (!flipK f k k) = flipK f (k + 1) := by
  funext i
  unfold upd flipK
  by_cases e : i = k
  · subst e; simp
  · by_cases h : i < k
    · rw [if_neg e, if_pos h, if_pos (by omega)]
    · rw [if_neg e, if_neg h, if_neg (by omega)]
theorem flipK_zero (f : Nat → Bool) : flipK f 0 = f := by funext i; simp [flipK]
theorem setT_congr {f g : Nat → Bool} (h : ∀ i, i < 256 → f i = g i) : setT f = setT g := by
  unfold setT
  exact List.map_congr_left fun i hi => by rw [h i (List.mem_range.1 hi)]
theorem trim_len (s : List UInt8) : (notB s = true ∧ (trimF s [33]).length < s.length) ∨ (notB s = false ∧ (trimF s [33]).length = s.length) := by
  unfold trimF
  show (notB s = true ∧ (if notB s then _ else s).length < s.length) ∨ (notB s = false ∧ (if notB s then _ else s).length = s.length)
  cases h : notB s
  · exact .inr ⟨rfl, by simp⟩
  · refine .inl ⟨rfl, ?_⟩
    unfold notB at h
    rw [Bool.and_eq_true, decide_eq_true_eq] at h
    have := h.1
    simp only [if_true, List.length_drop]
    simp at this ⊢
    omega
theorem find_class (s : List UInt8) (hs : s.length ≤ 100000) : PC Try.prog 38 [iS s] [] 0 9 (fun t obs => t = .iv (encA (classF s)) ∧ obs = []) := by
  have hex : s.length ≤ 1000000 := by omega
  have htl : (trimF s [33]).length ≤ s.length := by rcases trim_len s with h | h <;> omega
  have hcl : ∀ i, (classF s).set i = (inSp (spansF (trimF s [33])) i != notB s) := fun i => rfl
  refine PC.bodyG (finC T 2 70) Try.func38 rfl (by rfl) (Nat.le_of_ble_eq_true (by rfl)) (finC_ok TT (by rfl)) ?_; simp only [enumA]
  ((repeat refine PWp.seq ?_); refine PWp.region TT (by rfl) (fun K hK => ?_); simp only [push_cast, seval, Nat.reduceEqDiff, Nat.reduceLeDiff, reduceCtorEq]; (repeat refine sk ?_); refine hK _ ?_; clear hK K)
  ((repeat refine PWp.seq ?_); refine PWp.region TT (by rfl) (fun K hK => ?_); simp only [push_cast, seval, Nat.reduceEqDiff, Nat.reduceLeDiff, reduceCtorEq]; (repeat refine sk ?_); refine hK _ ?_; clear hK K)
  ((repeat refine PWp.seq ?_); refine PWp.region TT (by rfl) (fun K hK => ?_); simp only [push_cast, seval, Nat.reduceEqDiff, Nat.reduceLeDiff, reduceCtorEq])
  ((repeat refine sk ?_); refine PCall.use (TrimPrefix1 s [33] hex (by decide)) [] rfl (by simp [push_cast]) (by simp) (by simp [push_cast]) (by simp [push_cast]) (by simp [push_cast]) (by simp [push_cast]) ?_)
  rintro _ _ ⟨rfl, rfl⟩
  (simp only [push_cast, seval, Nat.reduceEqDiff, Nat.reduceLeDiff, reduceCtorEq]; (repeat refine sk ?_); refine hK _ ?_; clear hK K)
  have htrim := trim_len s
  generalize trimF s [33] = q at *
  refine PWp.gh (st' := ⟨[(0, iS s), (2, .bptr 0 0), (3, .bptr 1 0), (4, iS q)], [(0, .box 70 (cellsA ⟨false, fun _ => false⟩)), (1, .box 70 (cellsA ⟨false, fun _ => false⟩))], 2⟩) (Gh.le (by simp [push_cast, -List.getD_eq_getElem?_getD]) (by simp)) ?_
  ((repeat refine PWp.seq ?_); refine PWp.region TT (by rfl) (fun K hK => ?_); simp only [push_cast, seval, Nat.reduceEqDiff, Nat.reduceLeDiff, reduceCtorEq]; (repeat refine sk ?_); refine hK _ ?_; clear hK K)
  ((repeat refine PWp.seq ?_); refine PWp.block ?_)
  refine PWp.loop (fun c st => ∃ (i : Nat) (sp : List (Nat × Nat)), c = q.length - i ∧ i ≤ q.length ∧ spansF q = sp ++ spansF (q.drop i) ∧
    st = ⟨[(0, iS s), (2, .bptr 0 0), (3, .bptr 1 0), (4, iS q), (5, iI i)], [(0, .box 70 (cellsA ⟨false, fun _ => false⟩)), (1, .box 70 (cellsA ⟨false, inSp sp⟩))], 2⟩) _ _ ⟨0, [], rfl, Nat.zero_le _, rfl, rfl⟩ (Gh.le (by simp [push_cast, -List.getD_eq_getElem?_getD, show inSp [] = fun _ => false from rfl]) (by simp)) ?_
  rintro c st ⟨i, sp, rfl, hi, hsp, rfl⟩
  ((repeat refine PWp.seq ?_); refine PWp.region TT (by rfl) (fun K hK => ?_); simp only [push_cast, seval, Nat.reduceEqDiff, Nat.reduceLeDiff, reduceCtorEq]; (repeat refine sk ?_); refine hK _ ?_; clear hK K)
  ((repeat refine PWp.seq ?_); refine PWp.cond (by simp only [push_cast, seval, Nat.reduceEqDiff, Nat.reduceLeDiff, reduceCtorEq]; rfl) (fun hc => ?_) (fun hc => ?_))
  · have hlt : i < q.length := by simp at hc; omega
    clear hc
    rw [drop_getD hlt] at hsp
    have hdl : (q.drop (i + 1)).length = q.length - (i + 1) := List.length_drop
    have hd0 : (q.drop (i + 1)).getD 0 default = q.getD (i + 1) default := by simp [List.getD]
    have hd1 : (q.drop (i + 1)).getD 1 default = q.getD (i + 2) default := by simp [List.getD]
    have hdd : (q.drop (i + 1)).drop 2 = q.drop (i + 3) := by rw [List.drop_drop]
    have hq0 : q.getD i 0 = q.getD i default := rfl
    have ha := (q.getD i 0).toNat_lt
    ((repeat refine PWp.seq ?_); refine PWp.skip ?_)
    ((repeat refine PWp.seq ?_); refine PWp.block ?_)
    ((repeat refine PWp.seq ?_); refine PWp.draw TT (by kernel_rfl) (by kernel_rfl) (by rfl) (by rfl) (fun K hK => ?_); simp only [push_cast, seval, Nat.reduceEqDiff, Nat.reduceLeDiff, reduceCtorEq]; (repeat refine sk ?_); refine hK _ ?_; clear hK K)
    have t1 : ((i : Int) + 1).toNat = i + 1 := by omega
    have t2 : ((i : Int) + 2).toNat = i + 2 := by omega
    by_cases h2 : i + 2 < q.length
    · have hd : decide ((i : Int) + 2 < (q.length : Int)) = true := decide_eq_true (by omega)
      ((repeat refine PWp.seq ?_); refine PWp.region TT (by rfl) (fun K hK => ?_); simp only [push_cast, seval, Nat.reduceEqDiff, Nat.reduceLeDiff, reduceCtorEq, hd, t1, wrap64_id (n := (i : Int) + 2) (by omega) (by omega), wrap64_id (n := (i : Int) + 1) (by omega) (by omega)]; (repeat refine sk ?_); refine hK _ ?_; clear hK K)
      ((repeat refine PWp.seq ?_); refine PWp.cond (by simp only [push_cast, seval, Nat.reduceEqDiff, Nat.reduceLeDiff, reduceCtorEq]; rfl) (fun hc => ?_) (fun hc => ?_))
      · have h45 : q.getD (i + 1) default = 45 := by
          apply UInt8.toNat_inj.1
          have := beq_iff_eq.1 hc
          show (q.getD (i + 1) 0).toNat = 45
          omega
        clear hc
        have hsp' : spansF q = sp ++ (((q.getD i 0).toNat, (q.getD (i + 2) 0).toNat) :: spansF (q.drop (i + 3))) := by
          rw [hsp, spans_range ⟨by omega, by rw [hd0]; exact h45⟩, hd1, hdd]
          rfl
        ((repeat refine PWp.seq ?_); refine PWp.region TT (by rfl) (fun K hK => ?_); simp only [push_cast, seval, Nat.reduceEqDiff, Nat.reduceLeDiff, reduceCtorEq, t2, wrap64_id (n := (i : Int) + 2) (by omega) (by omega)]; (repeat refine sk ?_); refine hK _ ?_; clear hK K)
        ((repeat refine PWp.seq ?_); refine PWp.region TT (by rfl) (fun K hK => ?_); simp only [push_cast, seval, Nat.reduceEqDiff, Nat.reduceLeDiff, reduceCtorEq, wrap64_id (n := (i : Int) + 2) (by omega) (by omega)]; (repeat refine sk ?_); refine hK _ ?_; clear hK K)
        have hb := (q.getD (i + 2) 0).toNat_lt
        ((repeat refine PWp.seq ?_); refine PWp.region TT (by rfl) (fun K hK => ?_); simp only [push_cast, seval, Nat.reduceEqDiff, Nat.reduceLeDiff, reduceCtorEq, wrap64_id (n := ((q.getD i 0).toNat : Int)) (by omega) (by omega)]; (repeat refine sk ?_); refine hK _ ?_; clear hK K)
        ((repeat refine PWp.seq ?_); refine PWp.block ?_)
        refine PWp.loop (fun c st => ∃ k : Nat, c = 256 - k ∧ (q.getD i 0).toNat ≤ k ∧ k ≤ 256 ∧ (k = (q.getD i 0).toNat ∨ k ≤ (q.getD (i + 2) 0).toNat + 1) ∧
          st = ⟨[(0, iS s), (2, .bptr 0 0), (3, .bptr 1 0), (4, iS q), (5, iI ((i : Int) + 2)), (7, iU (q.getD (i + 2) 0).toNat), (8, iI k)], [(0, .box 70 (cellsA ⟨false, fun _ => false⟩)), (1, .box 70 (cellsA ⟨false, fillS (inSp sp) (q.getD i 0).toNat k⟩))], 2⟩) _ _ ⟨(q.getD i 0).toNat, rfl, Nat.le_refl _, by omega, .inl rfl, rfl⟩ (Gh.le (by simp [push_cast, -List.getD_eq_getElem?_getD, fillS_zero]) (by simp)) ?_
        rintro c st ⟨k, rfl, hk1, hk2, hk3, rfl⟩
        ((repeat refine PWp.seq ?_); refine PWp.region TT (by rfl) (fun K hK => ?_); simp only [push_cast, seval, Nat.reduceEqDiff, Nat.reduceLeDiff, reduceCtorEq, wrap64_id (n := ((q.getD (i + 2) 0).toNat : Int)) (by omega) (by omega)]; (repeat refine sk ?_); refine hK _ ?_; clear hK K)
        ((repeat refine PWp.seq ?_); refine PWp.cond (by simp only [push_cast, seval, Nat.reduceEqDiff, Nat.reduceLeDiff, reduceCtorEq]; rfl) (fun hc => ?_) (fun hc => ?_))
        · have hkb : k ≤ (q.getD (i + 2) 0).toNat := by have := of_decide_eq_true hc; omega
          clear hc
          have hs := fillS_succ (inSp sp) hk1
          ((repeat refine PWp.seq ?_); refine PWp.skip ?_)
          ((repeat refine PWp.seq ?_); refine PWp.block ?_)
          ((repeat refine PWp.seq ?_); refine PWp.region TT (by rfl) (fun K hK => ?_); simp only [push_cast, seval, Nat.reduceEqDiff, Nat.reduceLeDiff, reduceCtorEq, hs]; (repeat refine sk ?_); refine hK _ ?_; clear hK K)
          ((repeat refine PWp.seq ?_); refine PWp.region TT (by rfl) (fun K hK => ?_); simp only [push_cast, seval, Nat.reduceEqDiff, Nat.reduceLeDiff, reduceCtorEq, wrap64_id (n := (k : Int) + 1) (by omega) (by omega)]; (repeat refine sk ?_); refine hK _ ?_; clear hK K)
          refine ⟨_, _, ?_, ⟨k + 1, rfl, by omega, by omega, .inr (by omega), rfl⟩, Gh.le (by simp [push_cast, -List.getD_eq_getElem?_getD]) (by simp)⟩
          omega
        · have hkb : ¬ k ≤ (q.getD (i + 2) 0).toNat := by have := of_decide_eq_false hc; omega
          clear hc
          have hfa := fillS_all sp (q.getD i 0).toNat (q.getD (i + 2) 0).toNat k (by omega)
          (repeat refine PWp.seq ?_); refine PWp.exit (iteT rfl ?_)
          ((repeat refine PWp.seq ?_); refine PWp.region TT (by rfl) (fun K hK => ?_); simp only [push_cast, seval, Nat.reduceEqDiff, Nat.reduceLeDiff, reduceCtorEq, wrap64_id (n := ((i : Int) + 2 : Int) + 1) (by omega) (by omega)]; (repeat refine sk ?_); refine hK _ ?_; clear hK K)
          refine ⟨_, _, ?_, ⟨i + 3, sp ++ [((q.getD i 0).toNat, (q.getD (i + 2) 0).toNat)], rfl, by omega, by rw [hsp', List.append_assoc]; rfl, rfl⟩, Gh.le (by simp [push_cast, -List.getD_eq_getElem?_getD, hfa, show (i : Int) + 2 + 1 = (i : Int) + 3 by omega]) (by simp)⟩
          omega
      · have h45 : q.getD (i + 1) default ≠ 45 := fun e => by
          have e' : q.getD (i + 1) 0 = 45 := e
          rw [e'] at hc
          cases hc
        clear hc
        have hsp' : spansF q = sp ++ (((q.getD i 0).toNat, (q.getD i 0).toNat) :: spansF (q.drop (i + 1))) := by
          rw [hsp, spans_single fun h => h45 (by rw [← hd0]; exact h.2)]
          rfl
        ((repeat refine PWp.seq ?_); refine PWp.skip ?_)
        have hb := (q.getD (i) 0).toNat_lt
        ((repeat refine PWp.seq ?_); refine PWp.region TT (by rfl) (fun K hK => ?_); simp only [push_cast, seval, Nat.reduceEqDiff, Nat.reduceLeDiff, reduceCtorEq, wrap64_id (n := ((q.getD i 0).toNat : Int)) (by omega) (by omega)]; (repeat refine sk ?_); refine hK _ ?_; clear hK K)
        ((repeat refine PWp.seq ?_); refine PWp.block ?_)
        refine PWp.loop (fun c st => ∃ k : Nat, c = 256 - k ∧ (q.getD i 0).toNat ≤ k ∧ k ≤ 256 ∧ (k = (q.getD i 0).toNat ∨ k ≤ (q.getD (i) 0).toNat + 1) ∧
          st = ⟨[(0, iS s), (2, .bptr 0 0), (3, .bptr 1 0), (4, iS q), (5, iI (i)), (7, iU (q.getD (i) 0).toNat), (8, iI k)], [(0, .box 70 (cellsA ⟨false, fun _ => false⟩)), (1, .box 70 (cellsA ⟨false, fillS (inSp sp) (q.getD i 0).toNat k⟩))], 2⟩) _ _ ⟨(q.getD i 0).toNat, rfl, Nat.le_refl _, by omega, .inl rfl, rfl⟩ (Gh.le (by simp [push_cast, -List.getD_eq_getElem?_getD, fillS_zero]) (by simp)) ?_
        rintro c st ⟨k, rfl, hk1, hk2, hk3, rfl⟩
        ((repeat refine PWp.seq ?_); refine PWp.region TT (by rfl) (fun K hK => ?_); simp only [push_cast, seval, Nat.reduceEqDiff, Nat.reduceLeDiff, reduceCtorEq, wrap64_id (n := ((q.getD (i) 0).toNat : Int)) (by omega) (by omega)]; (repeat refine sk ?_); refine hK _ ?_; clear hK K)
        ((repeat refine PWp.seq ?_); refine PWp.cond (by simp only [push_cast, seval, Nat.reduceEqDiff, Nat.reduceLeDiff, reduceCtorEq]; rfl) (fun hc => ?_) (fun hc => ?_))
        · have hkb : k ≤ (q.getD (i) 0).toNat := by have := of_decide_eq_true hc; omega
          clear hc
          have hs := fillS_succ (inSp sp) hk1
          ((repeat refine PWp.seq ?_); refine PWp.skip ?_)
          ((repeat refine PWp.seq ?_); refine PWp.block ?_)
          ((repeat refine PWp.seq ?_); refine PWp.region TT (by rfl) (fun K hK => ?_); simp only [push_cast, seval, Nat.reduceEqDiff, Nat.reduceLeDiff, reduceCtorEq, hs]; (repeat refine sk ?_); refine hK _ ?_; clear hK K)
          ((repeat refine PWp.seq ?_); refine PWp.region TT (by rfl) (fun K hK => ?_); simp only [push_cast, seval, Nat.reduceEqDiff, Nat.reduceLeDiff, reduceCtorEq, wrap64_id (n := (k : Int) + 1) (by omega) (by omega)]; (repeat refine sk ?_); refine hK _ ?_; clear hK K)
          refine ⟨_, _, ?_, ⟨k + 1, rfl, by omega, by omega, .inr (by omega), rfl⟩, Gh.le (by simp [push_cast, -List.getD_eq_getElem?_getD]) (by simp)⟩
          omega
        · have hkb : ¬ k ≤ (q.getD (i) 0).toNat := by have := of_decide_eq_false hc; omega
          clear hc
          have hfa := fillS_all sp (q.getD i 0).toNat (q.getD (i) 0).toNat k (by omega)
          (repeat refine PWp.seq ?_); refine PWp.exit (iteT rfl ?_)
          ((repeat refine PWp.seq ?_); refine PWp.region TT (by rfl) (fun K hK => ?_); simp only [push_cast, seval, Nat.reduceEqDiff, Nat.reduceLeDiff, reduceCtorEq, wrap64_id (n := (i : Int) + 1) (by omega) (by omega)]; (repeat refine sk ?_); refine hK _ ?_; clear hK K)
          refine ⟨_, _, ?_, ⟨i + 1, sp ++ [((q.getD i 0).toNat, (q.getD (i) 0).toNat)], rfl, by omega, by rw [hsp', List.append_assoc]; rfl, rfl⟩, Gh.le (by simp [push_cast, -List.getD_eq_getElem?_getD, hfa]) (by simp)⟩
          omega
    · have hd : decide ((i : Int) + 2 < (q.length : Int)) = false := decide_eq_false (by omega)
      have hsp' : spansF q = sp ++ (((q.getD i 0).toNat, (q.getD i 0).toNat) :: spansF (q.drop (i + 1))) := by
        rw [hsp, spans_single fun h => by omega]
        rfl
      ((repeat refine PWp.seq ?_); refine PWp.region TT (by rfl) (fun K hK => ?_); simp only [push_cast, seval, Nat.reduceEqDiff, Nat.reduceLeDiff, reduceCtorEq, hd, wrap64_id (n := (i : Int) + 2) (by omega) (by omega)]; (repeat refine sk ?_); refine hK _ ?_; clear hK K)
      ((repeat refine PWp.seq ?_); refine PWp.cond (by simp only [push_cast, seval, Nat.reduceEqDiff, Nat.reduceLeDiff, reduceCtorEq]; rfl) (fun hc => ?_) (fun hc => ?_))
      · cases hc
      · clear hc
        ((repeat refine PWp.seq ?_); refine PWp.skip ?_)
        have hb := (q.getD (i) 0).toNat_lt
        ((repeat refine PWp.seq ?_); refine PWp.region TT (by rfl) (fun K hK => ?_); simp only [push_cast, seval, Nat.reduceEqDiff, Nat.reduceLeDiff, reduceCtorEq, wrap64_id (n := ((q.getD i 0).toNat : Int)) (by omega) (by omega)]; (repeat refine sk ?_); refine hK _ ?_; clear hK K)
        ((repeat refine PWp.seq ?_); refine PWp.block ?_)
        refine PWp.loop (fun c st => ∃ k : Nat, c = 256 - k ∧ (q.getD i 0).toNat ≤ k ∧ k ≤ 256 ∧ (k = (q.getD i 0).toNat ∨ k ≤ (q.getD (i) 0).toNat + 1) ∧
          st = ⟨[(0, iS s), (2, .bptr 0 0), (3, .bptr 1 0), (4, iS q), (5, iI (i)), (7, iU (q.getD (i) 0).toNat), (8, iI k)], [(0, .box 70 (cellsA ⟨false, fun _ => false⟩)), (1, .box 70 (cellsA ⟨false, fillS (inSp sp) (q.getD i 0).toNat k⟩))], 2⟩) _ _ ⟨(q.getD i 0).toNat, rfl, Nat.le_refl _, by omega, .inl rfl, rfl⟩ (Gh.le (by simp [push_cast, -List.getD_eq_getElem?_getD, fillS_zero]) (by simp)) ?_
        rintro c st ⟨k, rfl, hk1, hk2, hk3, rfl⟩
        ((repeat refine PWp.seq ?_); refine PWp.region TT (by rfl) (fun K hK => ?_); simp only [push_cast, seval, Nat.reduceEqDiff, Nat.reduceLeDiff, reduceCtorEq, wrap64_id (n := ((q.getD (i) 0).toNat : Int)) (by omega) (by omega)]; (repeat refine sk ?_); refine hK _ ?_; clear hK K)
        ((repeat refine PWp.seq ?_); refine PWp.cond (by simp only [push_cast, seval, Nat.reduceEqDiff, Nat.reduceLeDiff, reduceCtorEq]; rfl) (fun hc => ?_) (fun hc => ?_))
        · have hkb : k ≤ (q.getD (i) 0).toNat := by have := of_decide_eq_true hc; omega
          clear hc
          have hs := fillS_succ (inSp sp) hk1
          ((repeat refine PWp.seq ?_); refine PWp.skip ?_)
          ((repeat refine PWp.seq ?_); refine PWp.block ?_)
          ((repeat refine PWp.seq ?_); refine PWp.region TT (by rfl) (fun K hK => ?_); simp only [push_cast, seval, Nat.reduceEqDiff, Nat.reduceLeDiff, reduceCtorEq, hs]; (repeat refine sk ?_); refine hK _ ?_; clear hK K)
          ((repeat refine PWp.seq ?_); refine PWp.region TT (by rfl) (fun K hK => ?_); simp only [push_cast, seval, Nat.reduceEqDiff, Nat.reduceLeDiff, reduceCtorEq, wrap64_id (n := (k : Int) + 1) (by omega) (by omega)]; (repeat refine sk ?_); refine hK _ ?_; clear hK K)
          refine ⟨_, _, ?_, ⟨k + 1, rfl, by omega, by omega, .inr (by omega), rfl⟩, Gh.le (by simp [push_cast, -List.getD_eq_getElem?_getD]) (by simp)⟩
          omega
        · have hkb : ¬ k ≤ (q.getD (i) 0).toNat := by have := of_decide_eq_false hc; omega
          clear hc
          have hfa := fillS_all sp (q.getD i 0).toNat (q.getD (i) 0).toNat k (by omega)
          (repeat refine PWp.seq ?_); refine PWp.exit (iteT rfl ?_)
          ((repeat refine PWp.seq ?_); refine PWp.region TT (by rfl) (fun K hK => ?_); simp only [push_cast, seval, Nat.reduceEqDiff, Nat.reduceLeDiff, reduceCtorEq, wrap64_id (n := (i : Int) + 1) (by omega) (by omega)]; (repeat refine sk ?_); refine hK _ ?_; clear hK K)
          refine ⟨_, _, ?_, ⟨i + 1, sp ++ [((q.getD i 0).toNat, (q.getD (i) 0).toNat)], rfl, by omega, by rw [hsp', List.append_assoc]; rfl, rfl⟩, Gh.le (by simp [push_cast, -List.getD_eq_getElem?_getD, hfa]) (by simp)⟩
          omega
  · have hi' : i = q.length := by simp at hc; omega
    subst hi'
    rw [List.drop_length] at hsp
    have hspe : spansF q = sp := by rw [hsp]; simp [spansF]
    rw [← hspe]
    (repeat refine PWp.seq ?_); refine PWp.exit (iteT rfl ?_)
    ((repeat refine PWp.seq ?_); refine PWp.region TT (by rfl) (fun K hK => ?_); simp only [push_cast, seval, Nat.reduceEqDiff, Nat.reduceLeDiff, reduceCtorEq]; (repeat refine sk ?_); refine hK _ ?_; clear hK K)
    ((repeat refine PWp.seq ?_); refine PWp.cond (by simp only [push_cast, seval, Nat.reduceEqDiff, Nat.reduceLeDiff, reduceCtorEq]; rfl) (fun hc => ?_) (fun hc => ?_))
    · have hnb : notB s = true := by
        rcases htrim with h | h
        · exact h.1
        · exfalso; simp at hc; omega
      have hset : setT (flipK (inSp (spansF q)) 256) = setT (fun i => (inSp (spansF q) i != notB s)) := setT_congr fun i hi => by unfold flipK; rw [if_pos hi, hnb]; simp
      clear hc
      ((repeat refine PWp.seq ?_); refine PWp.region TT (by rfl) (fun K hK => ?_); simp only [push_cast, seval, Nat.reduceEqDiff, Nat.reduceLeDiff, reduceCtorEq]; (repeat refine sk ?_); refine hK _ ?_; clear hK K)
      ((repeat refine PWp.seq ?_); refine PWp.block ?_)
      refine PWp.loop (fun c st => ∃ k : Nat, c = 256 - k ∧ k ≤ 256 ∧
        st = ⟨[(2, .bptr 0 0), (3, .bptr 1 0), (58, iI k)], [(0, .box 70 (cellsA ⟨false, fun _ => false⟩)), (1, .box 70 (cellsA ⟨false, flipK (inSp (spansF q)) k⟩))], 2⟩) _ _ ⟨0, rfl, Nat.zero_le _, rfl⟩ (Gh.le (by simp [push_cast, -List.getD_eq_getElem?_getD, flipK_zero]) (by simp)) ?_
      rintro c st ⟨k, rfl, hk, rfl⟩
      ((repeat refine PWp.seq ?_); refine PWp.region TT (by rfl) (fun K hK => ?_); simp only [push_cast, seval, Nat.reduceEqDiff, Nat.reduceLeDiff, reduceCtorEq]; (repeat refine sk ?_); refine hK _ ?_; clear hK K)
      ((repeat refine PWp.seq ?_); refine PWp.cond (by simp only [push_cast, seval, Nat.reduceEqDiff, Nat.reduceLeDiff, reduceCtorEq]; rfl) (fun hc => ?_) (fun hc => ?_))
      · have hlt : k < 256 := by simp at hc; omega
        clear hc
        have hs := flipK_succ (inSp (spansF q)) k
        have hg := setT_get (f := flipK (inSp (spansF q)) k) hlt
        ((repeat refine PWp.seq ?_); refine PWp.skip ?_)
        ((repeat refine PWp.seq ?_); refine PWp.block ?_)
        ((repeat refine PWp.seq ?_); refine PWp.region TT (by rfl) (fun K hK => ?_); simp only [push_cast, seval, Nat.reduceEqDiff, Nat.reduceLeDiff, reduceCtorEq]; (repeat refine sk ?_); refine hK _ ?_; clear hK K)
        ((repeat refine PWp.seq ?_); refine PWp.region TT (by rfl) (fun K hK => ?_); simp only [push_cast, seval, Nat.reduceEqDiff, Nat.reduceLeDiff, reduceCtorEq, hg, hs]; (repeat refine sk ?_); refine hK _ ?_; clear hK K)
        ((repeat refine PWp.seq ?_); refine PWp.region TT (by rfl) (fun K hK => ?_); simp only [push_cast, seval, Nat.reduceEqDiff, Nat.reduceLeDiff, reduceCtorEq, wrap64_id (n := (k : Int) + 1) (by omega) (by omega)]; (repeat refine sk ?_); refine hK _ ?_; clear hK K)
        refine ⟨_, _, ?_, ⟨k + 1, rfl, by omega, rfl⟩, Gh.le (by simp [push_cast, -List.getD_eq_getElem?_getD]) (by simp)⟩
        omega
      · have hk' : k = 256 := by simp at hc; omega
        subst hk'
        (repeat refine PWp.seq ?_); refine PWp.exit (iteT rfl ?_)
        ((repeat refine PWp.seq ?_); refine PWp.region TT (by rfl) (fun K hK => ?_); simp only [push_cast, seval, Nat.reduceEqDiff, Nat.reduceLeDiff, reduceCtorEq]; (repeat refine sk ?_); refine hK _ ?_; clear hK K)
        ((repeat refine PWp.seq ?_); refine PWp.ret ?_)
        refine ⟨.inr rfl, by omega, _, [], ?_, rfl, rfl⟩
        have hI : setI (flipK (inSp (spansF q)) 256) = setI (classF s).set := by
          rw [← setT_im, hset, setT_im]
          exact congrArg setI (funext fun i => (hcl i).symm)
        have hany : (classF s).any = false := rfl
        simp only [encA, hany, ← hI]
        (simp [push_cast, -List.getD_eq_getElem?_getD])
    · have hnb : notB s = false := by
        rcases htrim with h | h
        · exfalso; simp at hc; omega
        · exact h.1
      have hI : inSp (spansF q) = (classF s).set := funext fun i => by rw [hcl, hnb]; simp
      have hany : (classF s).any = false := rfl
      clear hc
      ((repeat refine PWp.seq ?_); refine PWp.skip ?_)
      ((repeat refine PWp.seq ?_); refine PWp.region TT (by rfl) (fun K hK => ?_); simp only [push_cast, seval, Nat.reduceEqDiff, Nat.reduceLeDiff, reduceCtorEq]; (repeat refine sk ?_); refine hK _ ?_; clear hK K)
      ((repeat refine PWp.seq ?_); refine PWp.ret ?_)
      refine ⟨.inr rfl, by omega, _, [], ?_, rfl, rfl⟩
      simp only [encA, hany, ← hI]
      (simp [push_cast, -List.getD_eq_getElem?_getD])
end Go.Proofs.Ytjlnialglahdoaa
