/- How many rows there are of each sign. -/
import Derived.Test.YtjajefphfhdfkaaR5
namespace Go.Proofs.Ytjajefphfhdfkaa
open Go.PL
set_option maxRecDepth 100000
set_option linter.unusedSimpArgs false
set_option linter.unusedVariables false
theorem IndexByte2 (s : List UInt8) (c : Nat) : PC Try.prog 34 [iS s, iU c] [] 0 0 (fun t obs => t = iI (Lib.indexByte s c.toUInt8) ∧ obs = []) := by
  refine PC.body [4] Try.func34 rfl (by rfl) (Nat.le_of_ble_eq_true (by rfl)) rfl ?_; simp only [enumA]
  ((repeat refine PWp.seq ?_); refine PWp.region TT (by rfl) (fun K hK => ?_); simp only [push_cast, seval, Nat.reduceEqDiff, Nat.reduceLeDiff, reduceCtorEq]; (repeat refine sk ?_); refine hK _ ?_; clear hK K)
  (repeat refine PWp.seq ?_)
  refine PWp.regionX 2 TT rfl rfl (by intro c h; cases h) (by intro i h; cases h; exact Nat.le_of_ble_eq_true (by rfl)) (by rfl) (by rfl) (fun K hK => ?_)
  simp only [push_cast, seval, Nat.reduceEqDiff, Nat.reduceLeDiff, reduceCtorEq, List.take_succ_cons, List.take_zero, List.drop_succ_cons, List.drop_zero]
  refine ⟨.int .i64 (Lib.indexByte s c.toUInt8), fun κ N a h => ?_, ?_⟩
  · have e5 : a.eval (.tmp 5) = .string ⟨s.toArray⟩ := ivlit (h.env 5)
    have e6 : a.eval (.tmp 6) = .int .u8 c := ivlit (h.env 6)
    have ef : a.eval (.func 37) = .func (.func 37) #[] #[] := rfl
    simp only [execOp, resolve, invoke, e5, e6, ef, Deferred.ofValue, List.map_toArray, List.map_cons, List.map_nil, Sem.run_bind, Sem.run_pure, Result.andThen_ok, Array.append_empty, Array.empty_append]
    rw [run_callFunc_extern (f := 37) Try.func37 (by kernel_rfl) (by kernel_rfl) (by kernel_rfl) (e := Extern.BytealgIndexByte.indexByte) (by kernel_rfl), Lib.run_indexByteString]
    simp
  · ((repeat refine sk ?_); refine hK _ ?_; clear hK K)
    ((repeat refine PWp.seq ?_); refine PWp.ret ?_)
    refine ⟨.inr rfl, by omega, _, [], ?_, rfl, rfl⟩
    (simp [push_cast, -List.getD_eq_getElem?_getD])
theorem IndexByte1 (s : List UInt8) (c : Nat) : PC Try.prog 27 [iS s, iU c] [] 0 0 (fun t obs => t = iI (Lib.indexByte s c.toUInt8) ∧ obs = []) := by
  refine PC.body [4] Try.func27 rfl (by rfl) (Nat.le_of_ble_eq_true (by rfl)) rfl ?_; simp only [enumA]
  ((repeat refine PWp.seq ?_); refine PWp.region TT (by rfl) (fun K hK => ?_); simp only [push_cast, seval, Nat.reduceEqDiff, Nat.reduceLeDiff, reduceCtorEq]; (repeat refine sk ?_); refine hK _ ?_; clear hK K)
  ((repeat refine PWp.seq ?_); refine PWp.region TT (by rfl) (fun K hK => ?_); simp only [push_cast, seval, Nat.reduceEqDiff, Nat.reduceLeDiff, reduceCtorEq])
  ((repeat refine sk ?_); refine PCall.use (IndexByte2 s c) [] rfl (by simp [push_cast]) (by simp) (by simp [push_cast]) (by simp [push_cast]) (by simp [push_cast]) (by simp [push_cast]) ?_)
  rintro _ _ ⟨rfl, rfl⟩
  (simp only [push_cast, seval, Nat.reduceEqDiff, Nat.reduceLeDiff, reduceCtorEq]; (repeat refine sk ?_); refine hK _ ?_; clear hK K)
  ((repeat refine PWp.seq ?_); refine PWp.ret ?_)
  refine ⟨.inr rfl, by omega, _, [], ?_, rfl, rfl⟩
  (simp [push_cast, -List.getD_eq_getElem?_getD])
def cnt (s : Int) : List Pr → Nat
  | [] => 0
  | p :: l => (if p.g = s then 1 else 0) + cnt s l
theorem cnt_app (s : Int) (a b : List Pr) : cnt s (a ++ b) = cnt s a + cnt s b := by
  induction a with
  | nil => simp [cnt]
  | cons p a ih => simp only [List.cons_append, cnt, ih]; omega
theorem cnt_succ (s : Int) {l : List Pr} {k : Nat} (h : k < l.length) : cnt s (l.take (k + 1)) = cnt s (l.take k) + (if (l.getD k default).g = s then 1 else 0) := by
  rw [take_succ_getD h, cnt_app]
  simp [cnt]
theorem cnt_le (s : Int) (l : List Pr) : cnt s l ≤ l.length := by
  induction l with
  | nil => simp [cnt]
  | cons p l ih =>
    simp only [cnt, List.length_cons]
    split <;> omega
def legI (l : List Pr) : IV := .agg [.lit (.int .i64 (cnt 61 l)), .lit (.int .i64 (cnt 60 l)), .lit (.int .i64 (cnt 62 l)), .lit (.int .i64 (cnt 124 l))]
def sgIx (c : Nat) : Int := if c = 61 then 0 else if c = 60 then 1 else if c = 62 then 2 else if c = 124 then 3 else -1
theorem idx4 : ∀ c : Nat, c < 256 → Lib.indexByte [61, 60, 62, 124] c.toUInt8 = sgIx c := by decide
/-- Rows whose signs are bytes. -/
def okG (l : List Pr) : Prop := ∀ p ∈ l, 0 ≤ p.g ∧ p.g ≤ 255
theorem sg_cases (c : Nat) : c = 61 ∨ c = 60 ∨ c = 62 ∨ c = 124 ∨ (c ≠ 61 ∧ c ≠ 60 ∧ c ≠ 62 ∧ c ≠ 124) := by omega
def legO (a b c d : Int) : List TV := [iI a, iI b, iI c, iI d]
attribute [push_cast] legO
set_option maxHeartbeats 2000000 in
theorem sides_Legend (l : List Pr) (hl : l.length ≤ 1000000) (hg0 : okG l) : PC Try.prog 18 [iR l] [] 0 2 (fun t obs => t = .iv (legI l) ∧ obs = []) := by
  refine PC.bodyG (finC T 2 40) Try.func18 rfl (by rfl) (Nat.le_of_ble_eq_true (by rfl)) (finC_ok TT (by rfl)) ?_; simp only [enumA]
  ((repeat refine PWp.seq ?_); refine PWp.region TT (by rfl) (fun K hK => ?_); simp only [push_cast, seval, Nat.reduceEqDiff, Nat.reduceLeDiff, reduceCtorEq]; (repeat refine sk ?_); refine hK _ ?_; clear hK K)
  ((repeat refine PWp.seq ?_); refine PWp.region TT (by rfl) (fun K hK => ?_); simp only [push_cast, seval, Nat.reduceEqDiff, Nat.reduceLeDiff, reduceCtorEq]; (repeat refine sk ?_); refine hK _ ?_; clear hK K)
  ((repeat refine PWp.seq ?_); refine PWp.region TT (by rfl) (fun K hK => ?_); simp only [push_cast, seval, Nat.reduceEqDiff, Nat.reduceLeDiff, reduceCtorEq]; (repeat refine sk ?_); refine hK _ ?_; clear hK K)
  ((repeat refine PWp.seq ?_); refine PWp.block ?_)
  refine PWp.loop (fun c st => ∃ k : Nat, c = l.length - k ∧ k ≤ l.length ∧
    st = ⟨[(2, .bptr 0 0), (3, .bptr 1 0), (7, iR l), (8, iI l.length), (9, iI k)], [(0, .box 40 (legO 0 0 0 0)), (1, .box 40 (legO (cnt 61 (l.take k)) (cnt 60 (l.take k)) (cnt 62 (l.take k)) (cnt 124 (l.take k))))], 2⟩) _ _ ⟨0, rfl, Nat.zero_le _, rfl⟩ (Gh.le (by simp [push_cast, -List.getD_eq_getElem?_getD, cnt]) (by simp)) ?_
  rintro c st ⟨k, rfl, hk, rfl⟩
  ((repeat refine PWp.seq ?_); refine PWp.region TT (by rfl) (fun K hK => ?_); simp only [push_cast, seval, Nat.reduceEqDiff, Nat.reduceLeDiff, reduceCtorEq]; (repeat refine sk ?_); refine hK _ ?_; clear hK K)
  ((repeat refine PWp.seq ?_); refine PWp.cond (by simp only [push_cast, seval, Nat.reduceEqDiff, Nat.reduceLeDiff, reduceCtorEq]; rfl) (fun hc => ?_) (fun hc => ?_))
  · have hlt : k < l.length := by have := of_decide_eq_true hc; omega
    clear hc
    have hg : (l.map encP).getD k .any = encP (l.getD k default) := getD_map hlt
    have hb := hg0 _ (getD_mem hlt)
    have c1 := cnt_succ 61 hlt
    have c2 := cnt_succ 60 hlt
    have c3 := cnt_succ 62 hlt
    have c4 := cnt_succ 124 hlt
    have l1 : cnt 61 (l.take k) ≤ k := by have := cnt_le 61 (l.take k); rw [List.length_take] at this; omega
    have l2 : cnt 60 (l.take k) ≤ k := by have := cnt_le 60 (l.take k); rw [List.length_take] at this; omega
    have l3 : cnt 62 (l.take k) ≤ k := by have := cnt_le 62 (l.take k); rw [List.length_take] at this; omega
    have l4 : cnt 124 (l.take k) ≤ k := by have := cnt_le 124 (l.take k); rw [List.length_take] at this; omega
    generalize l.getD k default = x at *
    generalize cnt 61 (l.take k) = n1 at *
    generalize cnt 60 (l.take k) = n2 at *
    generalize cnt 62 (l.take k) = n3 at *
    generalize cnt 124 (l.take k) = n4 at *
    obtain ⟨g, hgx⟩ : ∃ g : Nat, x.g = g := ⟨x.g.toNat, by omega⟩
    rw [hgx] at c1 c2 c3 c4 hb
    have hix := idx4 g (by omega)
    have w1 := wrap64_id (n := (k : Int) + 1) (by omega) (by omega)
    ((repeat refine PWp.seq ?_); refine PWp.skip ?_)
    ((repeat refine PWp.seq ?_); refine PWp.block ?_)
    ((repeat refine PWp.seq ?_); refine PWp.region TT (by rfl) (fun K hK => ?_); simp only [push_cast, seval, Nat.reduceEqDiff, Nat.reduceLeDiff, reduceCtorEq, hg, hgx]; (repeat refine sk ?_); refine hK _ ?_; clear hK K)
    ((repeat refine PWp.seq ?_); refine PWp.region TT (by rfl) (fun K hK => ?_); simp only [push_cast, seval, Nat.reduceEqDiff, Nat.reduceLeDiff, reduceCtorEq])
    ((repeat refine sk ?_); refine PCall.use (IndexByte1 [61, 60, 62, 124] g) [] rfl (by simp [push_cast]) (by simp) (by simp [push_cast]) (by simp [push_cast]) (by simp [push_cast]) (by simp [push_cast]) ?_)
    rintro _ _ ⟨rfl, rfl⟩
    rw [hix]
    (simp only [push_cast, seval, Nat.reduceEqDiff, Nat.reduceLeDiff, reduceCtorEq]; (repeat refine sk ?_); refine hK _ ?_; clear hK K)
    rcases sg_cases g with h | h | h | h | ⟨h1, h2, h3, h4⟩
    · subst h
      rw [if_pos (by omega)] at c1
      rw [if_neg (by omega)] at c2 c3 c4
      rw [show sgIx 61 = 0 from rfl]
      ((repeat refine PWp.seq ?_); refine PWp.region TT (by rfl) (fun K hK => ?_); simp only [push_cast, seval, Nat.reduceEqDiff, Nat.reduceLeDiff, reduceCtorEq]; (repeat refine sk ?_); refine hK _ ?_; clear hK K)
      ((repeat refine PWp.seq ?_); refine PWp.cond (by simp only [push_cast, seval, Nat.reduceEqDiff, Nat.reduceLeDiff, reduceCtorEq]; rfl) (fun hc => ?_) (fun hc => ?_))
      · ((repeat refine PWp.seq ?_); refine PWp.region TT (by rfl) (fun K hK => ?_); simp only [push_cast, seval, Nat.reduceEqDiff, Nat.reduceLeDiff, reduceCtorEq, wrap64_id (n := (n1 : Int) + 1) (by omega) (by omega)]; (repeat refine sk ?_); refine hK _ ?_; clear hK K)
        ((repeat refine PWp.seq ?_); refine PWp.region TT (by rfl) (fun K hK => ?_); simp only [push_cast, seval, Nat.reduceEqDiff, Nat.reduceLeDiff, reduceCtorEq, w1]; (repeat refine sk ?_); refine hK _ ?_; clear hK K)
        refine ⟨_, _, ?_, ⟨k + 1, rfl, by omega, rfl⟩, Gh.le (by simp [push_cast, -List.getD_eq_getElem?_getD, c1, c2, c3, c4]) (by simp)⟩
        omega
      · cases hc
    · subst h
      rw [if_pos (by omega)] at c2
      rw [if_neg (by omega)] at c1 c3 c4
      rw [show sgIx 60 = 1 from rfl]
      ((repeat refine PWp.seq ?_); refine PWp.region TT (by rfl) (fun K hK => ?_); simp only [push_cast, seval, Nat.reduceEqDiff, Nat.reduceLeDiff, reduceCtorEq]; (repeat refine sk ?_); refine hK _ ?_; clear hK K)
      ((repeat refine PWp.seq ?_); refine PWp.cond (by simp only [push_cast, seval, Nat.reduceEqDiff, Nat.reduceLeDiff, reduceCtorEq]; rfl) (fun hc => ?_) (fun hc => ?_))
      · ((repeat refine PWp.seq ?_); refine PWp.region TT (by rfl) (fun K hK => ?_); simp only [push_cast, seval, Nat.reduceEqDiff, Nat.reduceLeDiff, reduceCtorEq, wrap64_id (n := (n2 : Int) + 1) (by omega) (by omega)]; (repeat refine sk ?_); refine hK _ ?_; clear hK K)
        ((repeat refine PWp.seq ?_); refine PWp.region TT (by rfl) (fun K hK => ?_); simp only [push_cast, seval, Nat.reduceEqDiff, Nat.reduceLeDiff, reduceCtorEq, w1]; (repeat refine sk ?_); refine hK _ ?_; clear hK K)
        refine ⟨_, _, ?_, ⟨k + 1, rfl, by omega, rfl⟩, Gh.le (by simp [push_cast, -List.getD_eq_getElem?_getD, c1, c2, c3, c4]) (by simp)⟩
        omega
      · cases hc
    · subst h
      rw [if_pos (by omega)] at c3
      rw [if_neg (by omega)] at c1 c2 c4
      rw [show sgIx 62 = 2 from rfl]
      ((repeat refine PWp.seq ?_); refine PWp.region TT (by rfl) (fun K hK => ?_); simp only [push_cast, seval, Nat.reduceEqDiff, Nat.reduceLeDiff, reduceCtorEq]; (repeat refine sk ?_); refine hK _ ?_; clear hK K)
      ((repeat refine PWp.seq ?_); refine PWp.cond (by simp only [push_cast, seval, Nat.reduceEqDiff, Nat.reduceLeDiff, reduceCtorEq]; rfl) (fun hc => ?_) (fun hc => ?_))
      · ((repeat refine PWp.seq ?_); refine PWp.region TT (by rfl) (fun K hK => ?_); simp only [push_cast, seval, Nat.reduceEqDiff, Nat.reduceLeDiff, reduceCtorEq, wrap64_id (n := (n3 : Int) + 1) (by omega) (by omega)]; (repeat refine sk ?_); refine hK _ ?_; clear hK K)
        ((repeat refine PWp.seq ?_); refine PWp.region TT (by rfl) (fun K hK => ?_); simp only [push_cast, seval, Nat.reduceEqDiff, Nat.reduceLeDiff, reduceCtorEq, w1]; (repeat refine sk ?_); refine hK _ ?_; clear hK K)
        refine ⟨_, _, ?_, ⟨k + 1, rfl, by omega, rfl⟩, Gh.le (by simp [push_cast, -List.getD_eq_getElem?_getD, c1, c2, c3, c4]) (by simp)⟩
        omega
      · cases hc
    · subst h
      rw [if_pos (by omega)] at c4
      rw [if_neg (by omega)] at c1 c2 c3
      rw [show sgIx 124 = 3 from rfl]
      ((repeat refine PWp.seq ?_); refine PWp.region TT (by rfl) (fun K hK => ?_); simp only [push_cast, seval, Nat.reduceEqDiff, Nat.reduceLeDiff, reduceCtorEq]; (repeat refine sk ?_); refine hK _ ?_; clear hK K)
      ((repeat refine PWp.seq ?_); refine PWp.cond (by simp only [push_cast, seval, Nat.reduceEqDiff, Nat.reduceLeDiff, reduceCtorEq]; rfl) (fun hc => ?_) (fun hc => ?_))
      · ((repeat refine PWp.seq ?_); refine PWp.region TT (by rfl) (fun K hK => ?_); simp only [push_cast, seval, Nat.reduceEqDiff, Nat.reduceLeDiff, reduceCtorEq, wrap64_id (n := (n4 : Int) + 1) (by omega) (by omega)]; (repeat refine sk ?_); refine hK _ ?_; clear hK K)
        ((repeat refine PWp.seq ?_); refine PWp.region TT (by rfl) (fun K hK => ?_); simp only [push_cast, seval, Nat.reduceEqDiff, Nat.reduceLeDiff, reduceCtorEq, w1]; (repeat refine sk ?_); refine hK _ ?_; clear hK K)
        refine ⟨_, _, ?_, ⟨k + 1, rfl, by omega, rfl⟩, Gh.le (by simp [push_cast, -List.getD_eq_getElem?_getD, c1, c2, c3, c4]) (by simp)⟩
        omega
      · cases hc
    · rw [if_neg (by omega)] at c1 c2 c3 c4
      rw [show sgIx g = -1 from by unfold sgIx; rw [if_neg h1, if_neg h2, if_neg h3, if_neg h4]]
      ((repeat refine PWp.seq ?_); refine PWp.region TT (by rfl) (fun K hK => ?_); simp only [push_cast, seval, Nat.reduceEqDiff, Nat.reduceLeDiff, reduceCtorEq]; (repeat refine sk ?_); refine hK _ ?_; clear hK K)
      ((repeat refine PWp.seq ?_); refine PWp.cond (by simp only [push_cast, seval, Nat.reduceEqDiff, Nat.reduceLeDiff, reduceCtorEq]; rfl) (fun hc => ?_) (fun hc => ?_))
      · cases hc
      · ((repeat refine PWp.seq ?_); refine PWp.skip ?_)
        ((repeat refine PWp.seq ?_); refine PWp.region TT (by rfl) (fun K hK => ?_); simp only [push_cast, seval, Nat.reduceEqDiff, Nat.reduceLeDiff, reduceCtorEq, w1]; (repeat refine sk ?_); refine hK _ ?_; clear hK K)
        refine ⟨_, _, ?_, ⟨k + 1, rfl, by omega, rfl⟩, Gh.le (by simp [push_cast, -List.getD_eq_getElem?_getD, c1, c2, c3, c4]) (by simp)⟩
        omega
  · have hk' : k = l.length := by have := of_decide_eq_false hc; omega
    subst hk'
    rw [List.take_length]
    (repeat refine PWp.seq ?_); refine PWp.exit (iteT rfl ?_)
    ((repeat refine PWp.seq ?_); refine PWp.region TT (by rfl) (fun K hK => ?_); simp only [push_cast, seval, Nat.reduceEqDiff, Nat.reduceLeDiff, reduceCtorEq]; (repeat refine sk ?_); refine hK _ ?_; clear hK K)
    ((repeat refine PWp.seq ?_); refine PWp.ret ?_)
    refine ⟨.inr rfl, by omega, _, [], ?_, rfl, rfl⟩
    (simp [push_cast, -List.getD_eq_getElem?_getD, legI])
set_option maxHeartbeats 2000000 in
theorem ref29_Legend (l : List Pr) (hl : l.length ≤ 1000000) (hg0 : okG l) : PC Try.prog 19 [iR l] [] 0 2 (fun t obs => t = .iv (legI l) ∧ obs = []) := by
  refine PC.bodyG (finC T 2 40) Try.func19 rfl (by rfl) (Nat.le_of_ble_eq_true (by rfl)) (finC_ok TT (by rfl)) ?_; simp only [enumA]
  ((repeat refine PWp.seq ?_); refine PWp.region TT (by rfl) (fun K hK => ?_); simp only [push_cast, seval, Nat.reduceEqDiff, Nat.reduceLeDiff, reduceCtorEq]; (repeat refine sk ?_); refine hK _ ?_; clear hK K)
  ((repeat refine PWp.seq ?_); refine PWp.region TT (by rfl) (fun K hK => ?_); simp only [push_cast, seval, Nat.reduceEqDiff, Nat.reduceLeDiff, reduceCtorEq]; (repeat refine sk ?_); refine hK _ ?_; clear hK K)
  ((repeat refine PWp.seq ?_); refine PWp.region TT (by rfl) (fun K hK => ?_); simp only [push_cast, seval, Nat.reduceEqDiff, Nat.reduceLeDiff, reduceCtorEq]; (repeat refine sk ?_); refine hK _ ?_; clear hK K)
  ((repeat refine PWp.seq ?_); refine PWp.block ?_)
  refine PWp.loop (fun c st => ∃ k : Nat, c = l.length - k ∧ k ≤ l.length ∧
    st = ⟨[(0, iR l), (2, .bptr 0 0), (3, .bptr 1 0), (4, iI k)], [(0, .box 40 (legO 0 0 0 0)), (1, .box 40 (legO (cnt 61 (l.take k)) (cnt 60 (l.take k)) (cnt 62 (l.take k)) (cnt 124 (l.take k))))], 2⟩) _ _ ⟨0, rfl, Nat.zero_le _, rfl⟩ (Gh.le (by simp [push_cast, -List.getD_eq_getElem?_getD, cnt]) (by simp)) ?_
  rintro c st ⟨k, rfl, hk, rfl⟩
  ((repeat refine PWp.seq ?_); refine PWp.region TT (by rfl) (fun K hK => ?_); simp only [push_cast, seval, Nat.reduceEqDiff, Nat.reduceLeDiff, reduceCtorEq]; (repeat refine sk ?_); refine hK _ ?_; clear hK K)
  ((repeat refine PWp.seq ?_); refine PWp.cond (by simp only [push_cast, seval, Nat.reduceEqDiff, Nat.reduceLeDiff, reduceCtorEq]; rfl) (fun hc => ?_) (fun hc => ?_))
  · have hlt : k < l.length := by have := of_decide_eq_true hc; omega
    clear hc
    have hg : (l.map encP).getD k .any = encP (l.getD k default) := getD_map hlt
    have hb := hg0 _ (getD_mem hlt)
    have c1 := cnt_succ 61 hlt
    have c2 := cnt_succ 60 hlt
    have c3 := cnt_succ 62 hlt
    have c4 := cnt_succ 124 hlt
    have l1 : cnt 61 (l.take k) ≤ k := by have := cnt_le 61 (l.take k); rw [List.length_take] at this; omega
    have l2 : cnt 60 (l.take k) ≤ k := by have := cnt_le 60 (l.take k); rw [List.length_take] at this; omega
    have l3 : cnt 62 (l.take k) ≤ k := by have := cnt_le 62 (l.take k); rw [List.length_take] at this; omega
    have l4 : cnt 124 (l.take k) ≤ k := by have := cnt_le 124 (l.take k); rw [List.length_take] at this; omega
    generalize l.getD k default = x at *
    generalize cnt 61 (l.take k) = n1 at *
    generalize cnt 60 (l.take k) = n2 at *
    generalize cnt 62 (l.take k) = n3 at *
    generalize cnt 124 (l.take k) = n4 at *
    obtain ⟨g, hgx⟩ : ∃ g : Nat, x.g = g := ⟨x.g.toNat, by omega⟩
    rw [hgx] at c1 c2 c3 c4 hb
    have w1 := wrap64_id (n := (k : Int) + 1) (by omega) (by omega)
    have b1 : ∀ n : Nat, g = n → ((g : Int) == n) = true := fun n h => beq_iff_eq.2 (by omega)
    have b2 : ∀ n : Nat, g ≠ n → ((g : Int) == n) = false := fun n h => beq_eq_false_iff_ne.2 (by omega)
    ((repeat refine PWp.seq ?_); refine PWp.skip ?_)
    ((repeat refine PWp.seq ?_); refine PWp.block ?_)
    ((repeat refine PWp.seq ?_); refine PWp.region TT (by rfl) (fun K hK => ?_); simp only [push_cast, seval, Nat.reduceEqDiff, Nat.reduceLeDiff, reduceCtorEq, hg, hgx]; (repeat refine sk ?_); refine hK _ ?_; clear hK K)
    ((repeat refine PWp.seq ?_); refine PWp.block ?_)
    rcases sg_cases g with h | h | h | h | ⟨h1, h2, h3, h4⟩
    · subst h
      rw [if_pos (by omega)] at c1
      rw [if_neg (by omega)] at c2 c3 c4
      ((repeat refine PWp.seq ?_); refine PWp.region TT (by rfl) (fun K hK => ?_); simp only [push_cast, seval, Nat.reduceEqDiff, Nat.reduceLeDiff, reduceCtorEq]; (repeat refine sk ?_); refine hK _ ?_; clear hK K)
      ((repeat refine PWp.seq ?_); refine PWp.cond (by simp only [push_cast, seval, Nat.reduceEqDiff, Nat.reduceLeDiff, reduceCtorEq]; rfl) (fun hc => ?_) (fun hc => ?_))
      · ((repeat refine PWp.seq ?_); refine PWp.region TT (by rfl) (fun K hK => ?_); simp only [push_cast, seval, Nat.reduceEqDiff, Nat.reduceLeDiff, reduceCtorEq, wrap64_id (n := (n1 : Int) + 1) (by omega) (by omega)]; (repeat refine sk ?_); refine hK _ ?_; clear hK K)
        ((repeat refine PWp.seq ?_); refine PWp.region TT (by rfl) (fun K hK => ?_); simp only [push_cast, seval, Nat.reduceEqDiff, Nat.reduceLeDiff, reduceCtorEq, w1]; (repeat refine sk ?_); refine hK _ ?_; clear hK K)
        refine ⟨_, _, ?_, ⟨k + 1, rfl, by omega, rfl⟩, Gh.le (by simp [push_cast, -List.getD_eq_getElem?_getD, c1, c2, c3, c4]) (by simp)⟩
        omega
      · cases hc
    · subst h
      rw [if_pos (by omega)] at c2
      rw [if_neg (by omega)] at c1 c3 c4
      ((repeat refine PWp.seq ?_); refine PWp.region TT (by rfl) (fun K hK => ?_); simp only [push_cast, seval, Nat.reduceEqDiff, Nat.reduceLeDiff, reduceCtorEq]; (repeat refine sk ?_); refine hK _ ?_; clear hK K)
      ((repeat refine PWp.seq ?_); refine PWp.cond (by simp only [push_cast, seval, Nat.reduceEqDiff, Nat.reduceLeDiff, reduceCtorEq]; rfl) (fun hc => ?_) (fun hc => ?_))
      · cases hc
      ((repeat refine PWp.seq ?_); refine PWp.region TT (by rfl) (fun K hK => ?_); simp only [push_cast, seval, Nat.reduceEqDiff, Nat.reduceLeDiff, reduceCtorEq]; (repeat refine sk ?_); refine hK _ ?_; clear hK K)
      ((repeat refine PWp.seq ?_); refine PWp.cond (by simp only [push_cast, seval, Nat.reduceEqDiff, Nat.reduceLeDiff, reduceCtorEq]; rfl) (fun hc => ?_) (fun hc => ?_))
      · ((repeat refine PWp.seq ?_); refine PWp.region TT (by rfl) (fun K hK => ?_); simp only [push_cast, seval, Nat.reduceEqDiff, Nat.reduceLeDiff, reduceCtorEq, wrap64_id (n := (n2 : Int) + 1) (by omega) (by omega)]; (repeat refine sk ?_); refine hK _ ?_; clear hK K)
        ((repeat refine PWp.seq ?_); refine PWp.region TT (by rfl) (fun K hK => ?_); simp only [push_cast, seval, Nat.reduceEqDiff, Nat.reduceLeDiff, reduceCtorEq, w1]; (repeat refine sk ?_); refine hK _ ?_; clear hK K)
        refine ⟨_, _, ?_, ⟨k + 1, rfl, by omega, rfl⟩, Gh.le (by simp [push_cast, -List.getD_eq_getElem?_getD, c1, c2, c3, c4]) (by simp)⟩
        omega
      · cases hc
    · subst h
      rw [if_pos (by omega)] at c3
      rw [if_neg (by omega)] at c1 c2 c4
      ((repeat refine PWp.seq ?_); refine PWp.region TT (by rfl) (fun K hK => ?_); simp only [push_cast, seval, Nat.reduceEqDiff, Nat.reduceLeDiff, reduceCtorEq]; (repeat refine sk ?_); refine hK _ ?_; clear hK K)
      ((repeat refine PWp.seq ?_); refine PWp.cond (by simp only [push_cast, seval, Nat.reduceEqDiff, Nat.reduceLeDiff, reduceCtorEq]; rfl) (fun hc => ?_) (fun hc => ?_))
      · cases hc
      ((repeat refine PWp.seq ?_); refine PWp.region TT (by rfl) (fun K hK => ?_); simp only [push_cast, seval, Nat.reduceEqDiff, Nat.reduceLeDiff, reduceCtorEq]; (repeat refine sk ?_); refine hK _ ?_; clear hK K)
      ((repeat refine PWp.seq ?_); refine PWp.cond (by simp only [push_cast, seval, Nat.reduceEqDiff, Nat.reduceLeDiff, reduceCtorEq]; rfl) (fun hc => ?_) (fun hc => ?_))
      · cases hc
      ((repeat refine PWp.seq ?_); refine PWp.region TT (by rfl) (fun K hK => ?_); simp only [push_cast, seval, Nat.reduceEqDiff, Nat.reduceLeDiff, reduceCtorEq]; (repeat refine sk ?_); refine hK _ ?_; clear hK K)
      ((repeat refine PWp.seq ?_); refine PWp.cond (by simp only [push_cast, seval, Nat.reduceEqDiff, Nat.reduceLeDiff, reduceCtorEq]; rfl) (fun hc => ?_) (fun hc => ?_))
      · ((repeat refine PWp.seq ?_); refine PWp.region TT (by rfl) (fun K hK => ?_); simp only [push_cast, seval, Nat.reduceEqDiff, Nat.reduceLeDiff, reduceCtorEq, wrap64_id (n := (n3 : Int) + 1) (by omega) (by omega)]; (repeat refine sk ?_); refine hK _ ?_; clear hK K)
        ((repeat refine PWp.seq ?_); refine PWp.region TT (by rfl) (fun K hK => ?_); simp only [push_cast, seval, Nat.reduceEqDiff, Nat.reduceLeDiff, reduceCtorEq, w1]; (repeat refine sk ?_); refine hK _ ?_; clear hK K)
        refine ⟨_, _, ?_, ⟨k + 1, rfl, by omega, rfl⟩, Gh.le (by simp [push_cast, -List.getD_eq_getElem?_getD, c1, c2, c3, c4]) (by simp)⟩
        omega
      · cases hc
    · subst h
      rw [if_pos (by omega)] at c4
      rw [if_neg (by omega)] at c1 c2 c3
      ((repeat refine PWp.seq ?_); refine PWp.region TT (by rfl) (fun K hK => ?_); simp only [push_cast, seval, Nat.reduceEqDiff, Nat.reduceLeDiff, reduceCtorEq]; (repeat refine sk ?_); refine hK _ ?_; clear hK K)
      ((repeat refine PWp.seq ?_); refine PWp.cond (by simp only [push_cast, seval, Nat.reduceEqDiff, Nat.reduceLeDiff, reduceCtorEq]; rfl) (fun hc => ?_) (fun hc => ?_))
      · cases hc
      ((repeat refine PWp.seq ?_); refine PWp.region TT (by rfl) (fun K hK => ?_); simp only [push_cast, seval, Nat.reduceEqDiff, Nat.reduceLeDiff, reduceCtorEq]; (repeat refine sk ?_); refine hK _ ?_; clear hK K)
      ((repeat refine PWp.seq ?_); refine PWp.cond (by simp only [push_cast, seval, Nat.reduceEqDiff, Nat.reduceLeDiff, reduceCtorEq]; rfl) (fun hc => ?_) (fun hc => ?_))
      · cases hc
      ((repeat refine PWp.seq ?_); refine PWp.region TT (by rfl) (fun K hK => ?_); simp only [push_cast, seval, Nat.reduceEqDiff, Nat.reduceLeDiff, reduceCtorEq]; (repeat refine sk ?_); refine hK _ ?_; clear hK K)
      ((repeat refine PWp.seq ?_); refine PWp.cond (by simp only [push_cast, seval, Nat.reduceEqDiff, Nat.reduceLeDiff, reduceCtorEq]; rfl) (fun hc => ?_) (fun hc => ?_))
      · cases hc
      ((repeat refine PWp.seq ?_); refine PWp.region TT (by rfl) (fun K hK => ?_); simp only [push_cast, seval, Nat.reduceEqDiff, Nat.reduceLeDiff, reduceCtorEq]; (repeat refine sk ?_); refine hK _ ?_; clear hK K)
      ((repeat refine PWp.seq ?_); refine PWp.cond (by simp only [push_cast, seval, Nat.reduceEqDiff, Nat.reduceLeDiff, reduceCtorEq]; rfl) (fun hc => ?_) (fun hc => ?_))
      · ((repeat refine PWp.seq ?_); refine PWp.region TT (by rfl) (fun K hK => ?_); simp only [push_cast, seval, Nat.reduceEqDiff, Nat.reduceLeDiff, reduceCtorEq, wrap64_id (n := (n4 : Int) + 1) (by omega) (by omega)]; (repeat refine sk ?_); refine hK _ ?_; clear hK K)
        ((repeat refine PWp.seq ?_); refine PWp.region TT (by rfl) (fun K hK => ?_); simp only [push_cast, seval, Nat.reduceEqDiff, Nat.reduceLeDiff, reduceCtorEq, w1]; (repeat refine sk ?_); refine hK _ ?_; clear hK K)
        refine ⟨_, _, ?_, ⟨k + 1, rfl, by omega, rfl⟩, Gh.le (by simp [push_cast, -List.getD_eq_getElem?_getD, c1, c2, c3, c4]) (by simp)⟩
        omega
      · cases hc
    · rw [if_neg (by omega)] at c1 c2 c3 c4
      have e1 : ((g : Int) == 61) = false := beq_eq_false_iff_ne.2 (by omega)
      have e2 : ((g : Int) == 60) = false := beq_eq_false_iff_ne.2 (by omega)
      have e3 : ((g : Int) == 62) = false := beq_eq_false_iff_ne.2 (by omega)
      have e4 : ((g : Int) == 124) = false := beq_eq_false_iff_ne.2 (by omega)
      ((repeat refine PWp.seq ?_); refine PWp.region TT (by rfl) (fun K hK => ?_); simp only [push_cast, seval, Nat.reduceEqDiff, Nat.reduceLeDiff, reduceCtorEq, e1]; (repeat refine sk ?_); refine hK _ ?_; clear hK K)
      ((repeat refine PWp.seq ?_); refine PWp.cond (by simp only [push_cast, seval, Nat.reduceEqDiff, Nat.reduceLeDiff, reduceCtorEq]; rfl) (fun hc => ?_) (fun hc => ?_))
      · cases hc
      ((repeat refine PWp.seq ?_); refine PWp.region TT (by rfl) (fun K hK => ?_); simp only [push_cast, seval, Nat.reduceEqDiff, Nat.reduceLeDiff, reduceCtorEq, e2]; (repeat refine sk ?_); refine hK _ ?_; clear hK K)
      ((repeat refine PWp.seq ?_); refine PWp.cond (by simp only [push_cast, seval, Nat.reduceEqDiff, Nat.reduceLeDiff, reduceCtorEq]; rfl) (fun hc => ?_) (fun hc => ?_))
      · cases hc
      ((repeat refine PWp.seq ?_); refine PWp.region TT (by rfl) (fun K hK => ?_); simp only [push_cast, seval, Nat.reduceEqDiff, Nat.reduceLeDiff, reduceCtorEq, e3]; (repeat refine sk ?_); refine hK _ ?_; clear hK K)
      ((repeat refine PWp.seq ?_); refine PWp.cond (by simp only [push_cast, seval, Nat.reduceEqDiff, Nat.reduceLeDiff, reduceCtorEq]; rfl) (fun hc => ?_) (fun hc => ?_))
      · cases hc
      ((repeat refine PWp.seq ?_); refine PWp.region TT (by rfl) (fun K hK => ?_); simp only [push_cast, seval, Nat.reduceEqDiff, Nat.reduceLeDiff, reduceCtorEq, e4]; (repeat refine sk ?_); refine hK _ ?_; clear hK K)
      ((repeat refine PWp.seq ?_); refine PWp.cond (by simp only [push_cast, seval, Nat.reduceEqDiff, Nat.reduceLeDiff, reduceCtorEq]; rfl) (fun hc => ?_) (fun hc => ?_))
      · cases hc
      · ((repeat refine PWp.seq ?_); refine PWp.skip ?_)
        ((repeat refine PWp.seq ?_); refine PWp.region TT (by rfl) (fun K hK => ?_); simp only [push_cast, seval, Nat.reduceEqDiff, Nat.reduceLeDiff, reduceCtorEq, w1]; (repeat refine sk ?_); refine hK _ ?_; clear hK K)
        refine ⟨_, _, ?_, ⟨k + 1, rfl, by omega, rfl⟩, Gh.le (by simp [push_cast, -List.getD_eq_getElem?_getD, c1, c2, c3, c4]) (by simp)⟩
        omega
  · have hk' : k = l.length := by have := of_decide_eq_false hc; omega
    subst hk'
    rw [List.take_length]
    (repeat refine PWp.seq ?_); refine PWp.exit (iteT rfl ?_)
    ((repeat refine PWp.seq ?_); refine PWp.region TT (by rfl) (fun K hK => ?_); simp only [push_cast, seval, Nat.reduceEqDiff, Nat.reduceLeDiff, reduceCtorEq]; (repeat refine sk ?_); refine hK _ ?_; clear hK K)
    ((repeat refine PWp.seq ?_); refine PWp.ret ?_)
    refine ⟨.inr rfl, by omega, _, [], ?_, rfl, rfl⟩
    (simp [push_cast, -List.getD_eq_getElem?_getD, legI])
end Go.Proofs.Ytjajefphfhdfkaa
