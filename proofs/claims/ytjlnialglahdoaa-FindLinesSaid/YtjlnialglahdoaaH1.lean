/- Values of chapter 34: parts of a pattern, with their sets of bytes; the functions that make them. -/
import Derived.Test.YtjlnialglahdoaaTy
namespace Go.Proofs.Ytjlnialglahdoaa
open Go.PL
set_option maxRecDepth 100000
set_option linter.unusedSimpArgs false
set_option linter.unusedVariables false
def encI (n : Int) : IV := .lit (.int .i64 n)
def encB (b : Bool) : IV := .lit (.bool b)
def iI (n : Int) : TV := .iv (.lit (.int .i64 n))
def iU (n : Nat) : TV := .iv (.lit (.int .u8 n))
def iB (b : Bool) : TV := .iv (.lit (.bool b))
def iS (l : List UInt8) : TV := .iv (.lit (.string ⟨l.toArray⟩))
def iN (l : List Int) : TV := .iv (.sl 1 (l.map encI))
attribute [push_cast] encI encB iI iU iB iS iN
theorem getD_mem {α : Type} [Inhabited α] {l : List α} {k : Nat} (h : k < l.length) : l.getD k default ∈ l := by simp [List.getD, h]
theorem take_succ_getD {α : Type} [Inhabited α] {l : List α} {k : Nat} (h : k < l.length) : l.take (k + 1) = l.take k ++ [l.getD k default] := by
  rw [List.take_add_one]; simp [List.getD, h]
theorem drop_getD {α : Type} [Inhabited α] {l : List α} {k : Nat} (h : k < l.length) : l.drop k = l.getD k default :: l.drop (k + 1) := by
  rw [List.drop_eq_getElem_cons h]
  simp [List.getD, h]
/-- A line. -/
structure Ln where
  t : List UInt8
  n : Bool
  deriving DecidableEq, Inhabited
def encL (l : Ln) : IV := .agg [.lit (.string ⟨l.t.toArray⟩), .lit (.bool l.n)]
def iL (l : List Ln) : TV := .iv (.sl 2 (l.map encL))
attribute [push_cast] encL iL
/-! ### Sets of bytes -/
def setI (f : Nat → Bool) : List IV := (List.range 256).map fun i => .lit (.bool (f i))
def setT (f : Nat → Bool) : List TV := (List.range 256).map fun i => .iv (.lit (.bool (f i)))
def upd (f : Nat → Bool) (c : Nat) (b : Bool) : Nat → Bool := fun i => if i = c then b else f i
theorem setI_len (f : Nat → Bool) : (setI f).length = 256 := by rw [setI, List.length_map, List.length_range]
theorem setT_len (f : Nat → Bool) : (setT f).length = 256 := by rw [setT, List.length_map, List.length_range]
theorem setI_map (f : Nat → Bool) : (setI f).map TV.iv = setT f := by
  unfold setI setT
  rw [List.map_map]
  rfl
theorem imList_map (l : List IV) : imList (l.map TV.iv) = l := by
  induction l with
  | nil => rfl
  | cons x l ih => simp only [List.map_cons, imList, ih]; rfl
theorem setT_im (f : Nat → Bool) : imList (setT f) = setI f := by rw [← setI_map, imList_map]
theorem setT_get {f : Nat → Bool} {c : Nat} (h : c < 256) : (setT f).getD c .any = .iv (.lit (.bool (f c))) := by
  unfold setT
  rw [List.getD_eq_getElem?_getD, List.getElem?_map, List.getElem?_range h]
  rfl
theorem setI_get {f : Nat → Bool} {c : Nat} (h : c < 256) : (setI f).getD c .any = .lit (.bool (f c)) := by
  unfold setI
  rw [List.getD_eq_getElem?_getD, List.getElem?_map, List.getElem?_range h]
  rfl
theorem setT_set {f : Nat → Bool} {c : Nat} {b : Bool} : (setT f).set c (.iv (.lit (.bool b))) = setT (upd f c b) := by
  unfold setT
  apply List.ext_getElem
  · simp
  · intro i h1 h2
    rw [List.getElem_set]
    simp only [List.getElem_map, List.getElem_range, upd]
    by_cases e : c = i
    · subst e; simp
    · rw [if_neg e, if_neg (fun h => e h.symm)]
structure At where
  any : Bool
  set : Nat → Bool
instance : Inhabited At := ⟨⟨false, fun _ => false⟩⟩
def encA (a : At) : IV := .agg (.lit (.bool a.any) :: setI a.set)
def cellsA (a : At) : List TV := .iv (.lit (.bool a.any)) :: setT a.set
attribute [push_cast] encA cellsA
attribute [push_cast] setI_len setT_len setI_map setT_im setT_set
theorem zTVs_rep (n : Nat) (v : Value) : zTVs (List.replicate n v) = List.replicate n (cTV v) := by
  induction n with
  | zero => rfl
  | succ n ih => rw [List.replicate_succ, List.replicate_succ, zTVs, ih]
theorem setT_no : setT (fun _ => false) = List.replicate 256 (.iv (.lit (.bool false))) := by
  unfold setT
  rw [List.map_const', List.length_range]
theorem z70 : zTVs zbig70 = cellsA ⟨false, fun _ => false⟩ := by
  unfold zbig70 cellsA
  rw [zTVs_rep, setT_no]
  rfl
attribute [push_cast] z70
theorem A_take (x : TV) (f : Nat → Bool) : (x :: setT f).take 257 = x :: setT f := List.take_of_length_le (by rw [List.length_cons, setT_len]; decide)
theorem A_drop (x : TV) (f : Nat → Bool) : (x :: setT f).drop 257 = [] := List.drop_eq_nil_of_le (by rw [List.length_cons, setT_len]; decide)
theorem A_set (x : TV) (f : Nat → Bool) (c : Nat) (v : TV) : (x :: setT f).set (1 + c) v = x :: (setT f).set c v := by rw [Nat.add_comm]; rfl
theorem A_get (x : TV) (f : Nat → Bool) (c : Nat) : (x :: setT f).getD (1 + c) .any = (setT f).getD c .any := by rw [Nat.add_comm]; rfl
theorem I_take (x : IV) (f : Nat → Bool) : (x :: setI f).take 257 = x :: setI f := List.take_of_length_le (by rw [List.length_cons, setI_len]; decide)
theorem setT_take (f : Nat → Bool) : (setT f).take 256 = setT f := List.take_of_length_le (by rw [setT_len]; decide)
theorem setI_take (f : Nat → Bool) : (setI f).take 256 = setI f := List.take_of_length_le (by rw [setI_len]; decide)
theorem setT_drop (f : Nat → Bool) : (setT f).drop 256 = [] := List.drop_eq_nil_of_le (by rw [setT_len]; decide)
theorem cellsle_iv (n : Nat) (l : List IV) : cellsle n (l.map TV.iv) (l.map TV.iv) := by
  induction l with
  | nil => trivial
  | cons x l ih => exact ⟨.inl rfl, rfl, ih⟩
theorem cellsle_setT (n : Nat) (f : Nat → Bool) : cellsle n (setT f) (setT f) := by rw [← setI_map]; exact cellsle_iv n _
theorem cellsleR_iv (σ : List Nat) (l : List IV) : cellsleR σ (l.map TV.iv) (l.map TV.iv) := by
  induction l with
  | nil => trivial
  | cons x l ih => exact ⟨.inl rfl, rfl, ih⟩
theorem cellsleR_setT (σ : List Nat) (f : Nat → Bool) : cellsleR σ (setT f) (setT f) := by rw [← setI_map]; exact cellsleR_iv σ _
theorem demC_setT (S : List Nat) (f : Nat → Bool) : demC S (setT f) = setT f := by
  rw [← setI_map]
  generalize setI f = l
  induction l with
  | nil => rfl
  | cons x l ih => simp only [List.map_cons, demC, ih]; rfl
theorem renC_setT (g : Nat → Nat) (f : Nat → Bool) : renC g (setT f) = setT f := by
  rw [← setI_map]
  generalize setI f = l
  induction l with
  | nil => rfl
  | cons x l ih => simp only [List.map_cons, renC, ih]; rfl
attribute [push_cast] demC_setT renC_setT setT_take setI_take setT_drop cellsle_setT cellsleR_setT A_take A_drop A_set A_get I_take List.length_cons List.map_cons List.nil_append List.append_nil
/-- One byte. -/
def oneF (c : Nat) : At := ⟨false, upd (fun _ => false) c true⟩
theorem find_one (c : Nat) (hc : c < 256) : PC Try.prog 36 [iU c] [] 0 9 (fun t obs => t = .iv (encA (oneF c)) ∧ obs = []) := by
  refine PC.bodyG (finC T 2 70) Try.func36 rfl (by rfl) (Nat.le_of_ble_eq_true (by rfl)) (finC_ok TT (by rfl)) ?_; simp only [enumA]
  ((repeat refine PWp.seq ?_); refine PWp.region TT (by rfl) (fun K hK => ?_); simp only [push_cast, seval, Nat.reduceEqDiff, Nat.reduceLeDiff, reduceCtorEq]; (repeat refine sk ?_); refine hK _ ?_; clear hK K)
  ((repeat refine PWp.seq ?_); refine PWp.region TT (by rfl) (fun K hK => ?_); simp only [push_cast, seval, Nat.reduceEqDiff, Nat.reduceLeDiff, reduceCtorEq]; (repeat refine sk ?_); refine hK _ ?_; clear hK K)
  ((repeat refine PWp.seq ?_); refine PWp.region TT (by rfl) (fun K hK => ?_); simp only [push_cast, seval, Nat.reduceEqDiff, Nat.reduceLeDiff, reduceCtorEq]; (repeat refine sk ?_); refine hK _ ?_; clear hK K)
  ((repeat refine PWp.seq ?_); refine PWp.region TT (by rfl) (fun K hK => ?_); simp only [push_cast, seval, Nat.reduceEqDiff, Nat.reduceLeDiff, reduceCtorEq]; (repeat refine sk ?_); refine hK _ ?_; clear hK K)
  ((repeat refine PWp.seq ?_); refine PWp.ret ?_)
  refine ⟨.inr rfl, by omega, _, [], ?_, rfl, rfl⟩
  (simp [push_cast, -List.getD_eq_getElem?_getD, oneF])
def allK (k : Nat) : Nat → Bool := fun i => decide (i < k)
def allF : At := ⟨false, allK 256⟩
theorem allK_succ (k : Nat) : upd (allK k) k true = allK (k + 1) := by
  funext i
  unfold upd allK
  by_cases h : i = k
  · subst h; simp
  · rw [if_neg h, Bool.eq_iff_iff, decide_eq_true_eq, decide_eq_true_eq]
    omega
theorem allK_zero : allK 0 = fun _ => false := by funext i; simp [allK]
theorem find_all : PC Try.prog 35 [] [] 0 9 (fun t obs => t = .iv (encA allF) ∧ obs = []) := by
  refine PC.bodyG (finC T 0 70) Try.func35 rfl (by rfl) (Nat.le_of_ble_eq_true (by rfl)) (finC_ok TT (by rfl)) ?_; simp only [enumA]
  ((repeat refine PWp.seq ?_); refine PWp.region TT (by rfl) (fun K hK => ?_); simp only [push_cast, seval, Nat.reduceEqDiff, Nat.reduceLeDiff, reduceCtorEq]; (repeat refine sk ?_); refine hK _ ?_; clear hK K)
  ((repeat refine PWp.seq ?_); refine PWp.region TT (by rfl) (fun K hK => ?_); simp only [push_cast, seval, Nat.reduceEqDiff, Nat.reduceLeDiff, reduceCtorEq]; (repeat refine sk ?_); refine hK _ ?_; clear hK K)
  ((repeat refine PWp.seq ?_); refine PWp.region TT (by rfl) (fun K hK => ?_); simp only [push_cast, seval, Nat.reduceEqDiff, Nat.reduceLeDiff, reduceCtorEq]; (repeat refine sk ?_); refine hK _ ?_; clear hK K)
  ((repeat refine PWp.seq ?_); refine PWp.block ?_)
  refine PWp.loop (fun c st => ∃ k : Nat, c = 256 - k ∧ k ≤ 256 ∧
    st = ⟨[(0, .bptr 0 0), (1, .bptr 1 0), (3, iI k)], [(0, .box 70 (cellsA ⟨false, fun _ => false⟩)), (1, .box 70 (cellsA ⟨false, allK k⟩))], 2⟩) _ _ ⟨0, rfl, Nat.zero_le _, rfl⟩ (Gh.le (by simp [push_cast, -List.getD_eq_getElem?_getD, allK_zero]) (by simp)) ?_
  rintro c st ⟨k, rfl, hk, rfl⟩
  ((repeat refine PWp.seq ?_); refine PWp.region TT (by rfl) (fun K hK => ?_); simp only [push_cast, seval, Nat.reduceEqDiff, Nat.reduceLeDiff, reduceCtorEq]; (repeat refine sk ?_); refine hK _ ?_; clear hK K)
  ((repeat refine PWp.seq ?_); refine PWp.cond (by simp only [push_cast, seval, Nat.reduceEqDiff, Nat.reduceLeDiff, reduceCtorEq]; rfl) (fun hc => ?_) (fun hc => ?_))
  · have hlt : k < 256 := by simp at hc; omega
    clear hc
    have hs := allK_succ k
    ((repeat refine PWp.seq ?_); refine PWp.skip ?_)
    ((repeat refine PWp.seq ?_); refine PWp.block ?_)
    ((repeat refine PWp.seq ?_); refine PWp.region TT (by rfl) (fun K hK => ?_); simp only [push_cast, seval, Nat.reduceEqDiff, Nat.reduceLeDiff, reduceCtorEq]; (repeat refine sk ?_); refine hK _ ?_; clear hK K)
    ((repeat refine PWp.seq ?_); refine PWp.region TT (by rfl) (fun K hK => ?_); simp only [push_cast, seval, Nat.reduceEqDiff, Nat.reduceLeDiff, reduceCtorEq, hs]; (repeat refine sk ?_); refine hK _ ?_; clear hK K)
    ((repeat refine PWp.seq ?_); refine PWp.region TT (by rfl) (fun K hK => ?_); simp only [push_cast, seval, Nat.reduceEqDiff, Nat.reduceLeDiff, reduceCtorEq, wrap64_id (n := (k : Int) + 1) (by omega) (by omega)]; (repeat refine sk ?_); refine hK _ ?_; clear hK K)
    refine ⟨_, _, ?_, ⟨k + 1, rfl, by omega, rfl⟩, Gh.le (by simp [push_cast, -List.getD_eq_getElem?_getD]) (by simp)⟩
    omega
  · have hk' : k = 256 := by simp at hc; omega
    subst hk'
    (repeat refine PWp.seq ?_); refine PWp.exit (iteT rfl ?_)
    ((repeat refine PWp.seq ?_); refine PWp.region TT (by rfl) (fun K hK => ?_); simp only [push_cast, seval, Nat.reduceEqDiff, Nat.reduceLeDiff, reduceCtorEq]; (repeat refine sk ?_); refine hK _ ?_; clear hK K)
    ((repeat refine PWp.seq ?_); refine PWp.ret ?_)
    refine ⟨.inr rfl, by omega, _, [], ?_, rfl, rfl⟩
    (simp [push_cast, -List.getD_eq_getElem?_getD, allF])
end Go.Proofs.Ytjlnialglahdoaa
