/- Several texts in one: B1, B2, B3, B4, B5, B6, B7, B8, B9, B10, C1. -/
import Derived.Test.YtmocgjimlhgejaaV2
namespace Go.Proofs.Ytmocgjimlhgejaa
open Go.PL
set_option maxRecDepth 100000
set_option linter.unusedSimpArgs false
set_option linter.unusedVariables false
def encT (o a b : List Ln) : IV := .agg [.sl 2 (o.map encL), .sl 2 (a.map encL), .sl 2 (b.map encL)]
attribute [push_cast] encT
structure Pc where
  side : Int
  c : Ck
  deriving DecidableEq, Inhabited
def encPc (p : Pc) : IV := .agg [.lit (.int .i64 p.side), .lit (.bool p.c.s), .lit (.int .i64 p.c.o), .lit (.int .i64 p.c.on), .lit (.int .i64 p.c.a), .lit (.int .i64 p.c.an), .lit (.int .i64 p.c.b), .lit (.int .i64 p.c.bn)]
attribute [push_cast] encPc
/-- So many lines from a place on. -/
def segN (l : List Ln) (i n : Int) : List Ln := (l.take (i + n).toNat).drop i.toNat
theorem segN_map (l : List Ln) (i n : Int) : (segN l i n).map encL = ((l.map encL).take (i + n).toNat).drop i.toNat := by simp [segN, List.map_take, List.map_drop]
def inL (l : List Ln) (i n : Int) : Prop := 0 ≤ i ∧ 0 ≤ n ∧ i + n ≤ l.length ∧ l.length ≤ 1000000
def inT (o a b : List Ln) (c : Ck) : Prop := inL o c.o c.on ∧ inL a c.a c.an ∧ inL b c.b c.bn
theorem segN_length {l : List Ln} {i n : Int} (h : inL l i n) : ((segN l i n).length : Int) = n := by
  unfold inL at h
  unfold segN
  rw [List.length_drop, List.length_take]
  omega
/-- Which text counts in a chunk: 1 both, 2 mine, 3 theirs, 4 none. -/
def sideF (o a b : List Ln) (c : Ck) : Int :=
  if c.s = true ∨ segN a c.a c.an = segN b c.b c.bn then 1 else if segN a c.a c.an = segN o c.o c.on then 3 else if segN b c.b c.bn = segN o c.o c.on then 2 else 4
theorem segN_le {l : List Ln} {i n : Int} (h : inL l i n) : (segN l i n).length ≤ 1000000 := by
  have h1 := segN_length h
  unfold inL at h
  omega
/-- A matched pair's lines have other texts. -/
def diff1 (x y : List Ln) (q : Int × Int) : Bool := !((x.getD q.1.toNat default).t == (y.getD q.2.toNat default).t)
def inP (x y : List Ln) (q : Int × Int) : Prop := 0 ≤ q.1 ∧ q.1 < x.length ∧ 0 ≤ q.2 ∧ q.2 < y.length
def mofE (o a b : List Ln) (oa ob : List (Int × Int)) : Int := if ofE oa ob o.length a.length b.length ≠ 0 then ofE oa ob o.length a.length b.length else if oa.any (diff1 o a) || ob.any (diff1 o b) then 3 else 0
def pcs (o a b : List Ln) (l : List Ck) : List Pc := l.map fun c => ⟨sideF o a b c, c⟩
def mofL (o a b : List Ln) (oa ob : List (Int × Int)) : List Pc := if mofE o a b oa ob ≠ 0 then [] else pcs o a b (ofL oa ob o.length a.length b.length)
theorem right_inP {p : List (Int × Int)} {x y : List Ln} (h : rRight p x.length y.length = true) : ∀ q ∈ p, inP x y q := by
  intro q hq
  obtain ⟨i, hi, rfl⟩ := List.getElem_of_mem hq
  have h1 := ((of_decide_eq_true h) i hi).1
  rw [show p.getD i default = p[i] by simp [List.getD, hi]] at h1
  unfold inP
  omega
theorem ofE_zero {oa ob : List (Int × Int)} {o a b : Int} (h : ofE oa ob o a b = 0) : okOf oa ob o a b = true := by
  unfold ofE at h
  split at h
  · assumption
  · cases h
theorem okOf_spec {oa ob : List (Int × Int)} {o a b : Int} (h : okOf oa ob o a b = true) : (o ≤ 400 ∧ a ≤ 400 ∧ b ≤ 400) ∧ rRight oa o a = true ∧ rRight ob o b = true := by
  simp only [okOf, Bool.and_eq_true, decide_eq_true_eq] at h
  obtain ⟨⟨⟨⟨⟨⟨⟨h1, h2⟩, h3⟩, h4⟩, h5⟩, h6⟩, h7⟩, h8⟩ := h
  exact ⟨⟨h2, h4, h6⟩, h7, h8⟩
theorem ofL_inT {oa ob : List (Int × Int)} {o a b : List Ln} {c : Ck} (h : c ∈ ofL oa ob o.length a.length b.length) : inT o a b c := by
  have := ofL_bound h
  unfold inT inL
  omega
theorem lensP (l : List Pc) : lens? 8 (l.map encPc) := lens_map (f := encPc) (fun a => ⟨trivial, rfl⟩) l
theorem pcs_succ (o a b : List Ln) (l : List Ck) {k : Nat} (h : k < l.length) : pcs o a b (l.take (k + 1)) = pcs o a b (l.take k) ++ [⟨sideF o a b (l.getD k default), l.getD k default⟩] := by
  unfold pcs
  rw [take_succ_getD h]
  simp
def iPc (l : List Pc) : TV := .iv (.sl 8 (l.map encPc))
attribute [push_cast] iPc
def clashB (p : Pc) : Bool := p.side == 4
def cleanB (l : List Pc) : Bool := !l.any clashB
def sideOk (p : Pc) : Bool := decide (1 ≤ p.side) && decide (p.side ≤ 4)
def fitsB (o a b : List Ln) (l : List Pc) : Bool := l.all sideOk && rightC o.length a.length b.length (l.map (·.c)) 0 0 0
theorem lensC (l : List Ck) : lens? 7 (l.map encC) := lens_map (f := encC) (fun a => ⟨trivial, rfl⟩) l
/-- Pieces that fit are of the texts. -/
theorem rightC_in {o a b : List Ln} (ho : o.length ≤ 1000000) (ha : a.length ≤ 1000000) (hb : b.length ≤ 1000000) : ∀ {l : List Ck} {x y z : Int}, 0 ≤ x → x ≤ o.length → 0 ≤ y → y ≤ a.length → 0 ≤ z → z ≤ b.length → rightC o.length a.length b.length l x y z = true → ∀ c ∈ l, inT o a b c
  | [], _, _, _, _, _, _, _, _, _, _, c, hc => by cases hc
  | d :: l, x, y, z, x0, x1, y0, y1, z0, z1, h, c, hc => by
    simp only [rightC, Bool.and_eq_true, decide_eq_true_eq] at h
    obtain ⟨hk, h⟩ := h
    unfold okC at hk
    rw [wrap64_id (n := (o.length : Int) - x) (by omega) (by omega), wrap64_id (n := (a.length : Int) - y) (by omega) (by omega), wrap64_id (n := (b.length : Int) - z) (by omega) (by omega)] at hk
    rw [wrap64_id (n := x + d.on) (by omega) (by omega), wrap64_id (n := y + d.an) (by omega) (by omega), wrap64_id (n := z + d.bn) (by omega) (by omega)] at h
    rcases List.mem_cons.1 hc with rfl | hc
    · unfold inT inL
      omega
    · exact rightC_in ho ha hb (by omega) (by omega) (by omega) (by omega) (by omega) (by omega) h c hc
theorem fits_in {o a b : List Ln} {l : List Pc} (ho : o.length ≤ 1000000) (ha : a.length ≤ 1000000) (hb : b.length ≤ 1000000) (h : fitsB o a b l = true) : ∀ p ∈ l, inT o a b p.c ∧ 1 ≤ p.side ∧ p.side ≤ 4 := by
  intro p hp
  unfold fitsB at h
  rw [Bool.and_eq_true, List.all_eq_true] at h
  have h1 := h.1 p hp
  simp only [sideOk, Bool.and_eq_true, decide_eq_true_eq] at h1
  exact ⟨rightC_in ho ha hb (by omega) (by omega) (by omega) (by omega) (by omega) (by omega) h.2 _ (List.mem_map_of_mem hp), h1⟩
set_option maxRecDepth 100000
set_option linter.unusedSimpArgs false
set_option linter.unusedVariables false
def mkMine : List UInt8 := [60, 60, 60, 60, 60, 60, 60, 32, 109, 105, 110, 101]
def mkBase : List UInt8 := [124, 124, 124, 124, 124, 124, 124, 32, 98, 97, 115, 101]
def mkEq : List UInt8 := [61, 61, 61, 61, 61, 61, 61]
def mkTheirs : List UInt8 := [62, 62, 62, 62, 62, 62, 62, 32, 116, 104, 101, 105, 114, 115]
def mkLs (s : List UInt8) : List Ln := [⟨s, false⟩]
/-- A clash's lines. -/
def markL (o a b : List Ln) : List Ln := mkLs mkMine ++ a ++ mkLs mkBase ++ o ++ mkLs mkEq ++ b ++ mkLs mkTheirs
/-- A piece's lines. -/
def pieceL (o a b : List Ln) (p : Pc) : List Ln :=
  if p.side = 2 then segN a p.c.a p.c.an else if p.side = 4 then markL (segN o p.c.o p.c.on) (segN a p.c.a p.c.an) (segN b p.c.b p.c.bn) else segN b p.c.b p.c.bn
theorem segN_le' {l : List Ln} {i n : Int} : (segN l i n).length ≤ l.length := by
  unfold segN
  rw [List.length_drop, List.length_take]
  omega
/-- Lines of which none is bare but the last one: the first so many. -/
def evenN (l : List Ln) (k : Nat) : List Ln := (List.range k).map fun i => ⟨(l.getD i default).t, (l.getD i default).b && decide (i + 1 = l.length)⟩
def evenL (l : List Ln) : List Ln := evenN l l.length
theorem evenN_length (l : List Ln) (k : Nat) : (evenN l k).length = k := by simp [evenN]
def evM (l : List Ln) (k : Nat) : List Ln := evenN l k ++ l.drop k
theorem evM_length {l : List Ln} {k : Nat} (h : k ≤ l.length) : (evM l k).length = l.length := by
  unfold evM
  rw [List.length_append, evenN_length, List.length_drop]
  omega
theorem evM_get {l : List Ln} {k : Nat} (h : k < l.length) : (evM l k).getD k default = l.getD k default := by
  unfold evM
  rw [drop_getD h]
  simp [List.getD, List.getElem?_append_right, evenN_length]
theorem evM_set {l : List Ln} {k : Nat} (h : k < l.length) : (evM l k).set k ⟨(l.getD k default).t, (l.getD k default).b && decide (k + 1 = l.length)⟩ = evM l (k + 1) := by
  unfold evM
  rw [drop_getD h, List.set_append_right _ _ (by rw [evenN_length]; exact Nat.le_refl _), evenN_length, Nat.sub_self]
  simp [evenN, List.range_succ]
theorem evM_all (l : List Ln) : evM l l.length = evenL l := by unfold evM evenL; rw [List.drop_length, List.append_nil]
theorem evM_zero (l : List Ln) : evM l 0 = l := by simp [evM, evenN]
def flatP (o a b : List Ln) (l : List Pc) : List Ln := (l.map (pieceL o a b)).flatten
theorem flatP_succ (o a b : List Ln) (l : List Pc) {k : Nat} (h : k < l.length) : flatP o a b (l.take (k + 1)) = flatP o a b (l.take k) ++ pieceL o a b (l.getD k default) := by
  unfold flatP
  rw [take_succ_getD h]
  simp
theorem pieceL_length (o a b : List Ln) (p : Pc) : (pieceL o a b p).length ≤ o.length + a.length + b.length + 4 := by
  have l1 := segN_le' (l := o) (i := p.c.o) (n := p.c.on)
  have l2 := segN_le' (l := a) (i := p.c.a) (n := p.c.an)
  have l3 := segN_le' (l := b) (i := p.c.b) (n := p.c.bn)
  unfold pieceL
  split
  · omega
  · split
    · simp [markL, mkLs]; omega
    · omega
theorem flatP_length (o a b : List Ln) : ∀ (l : List Pc), (flatP o a b l).length ≤ l.length * (o.length + a.length + b.length + 4)
  | [] => by simp [flatP]
  | p :: l => by
    have h1 := pieceL_length o a b p
    have h2 := flatP_length o a b l
    have e : flatP o a b (p :: l) = pieceL o a b p ++ flatP o a b l := by simp [flatP]
    rw [e, List.length_append, List.length_cons, Nat.succ_mul]
    omega
def mkE (l : List Pc) (o a b : List Ln) : Int := if fitsB o a b l then 0 else 3
def mkR (l : List Pc) (o a b : List Ln) : List Ln := if fitsB o a b l then evenL (flatP o a b l) else []
def lnE (l : List Pc) (o a b : List Ln) : Int := if fitsB o a b l then (if cleanB l then 0 else 10) else 3
def lnR (l : List Pc) (o a b : List Ln) : List Ln := if fitsB o a b l then (if cleanB l then evenL (flatP o a b l) else []) else []
theorem ref14_cut (l : List Ln) (i n : Int) (h : inL l i n) : PC Try.prog 36 [iL l, iI i, iI n] [] 0 1 (fun t obs => t = iL (segN l i n) ∧ obs = []) := by
  have hl := lensL (segN l i n)
  rw [segN_map] at hl
  have h1 := segN_le h
  have h2 := segN_length h
  have h3 : (((l.map encL).take (i + n).toNat).drop i.toNat).length ≤ 1000000 := by rw [← segN_map, List.length_map]; exact h1
  unfold inL at h
  refine PC.body [6] Try.func36 rfl (by rfl) (Nat.le_of_ble_eq_true (by rfl)) rfl ?_; simp only [enumA]
  ((repeat refine PWp.seq ?_); refine PWp.region TT (by rfl) (fun K hK => ?_); simp only [push_cast, seval, Nat.reduceEqDiff, Nat.reduceLeDiff, reduceCtorEq]; (repeat refine sk ?_); refine hK _ ?_; clear hK K)
  ((repeat refine PWp.seq ?_); refine PWp.region TT (by rfl) (fun K hK => ?_); simp only [push_cast, seval, Nat.reduceEqDiff, Nat.reduceLeDiff, reduceCtorEq, wrap64_id (n := i + n) (by omega) (by omega), hl]; (repeat refine sk ?_); refine hK _ ?_; clear hK K)
  ((repeat refine PWp.seq ?_); refine PWp.ret ?_)
  refine ⟨.inr rfl, by omega, _, [], ?_, rfl, rfl⟩
  (simp [push_cast, -List.getD_eq_getElem?_getD, segN_map])
theorem ref14_fits (o a b : List Ln) (l : List Pc) (hl : l.length ≤ 1000000) : PC Try.prog 39 [iPc l, iL o, iL a, iL b] [] 0 9 (fun t obs => t = iB (fitsB o a b l) ∧ obs = []) := by
  refine PC.body [8] Try.func39 rfl (by rfl) (Nat.le_of_ble_eq_true (by rfl)) rfl ?_; simp only [enumA]
  ((repeat refine PWp.seq ?_); refine PWp.region TT (by rfl) (fun K hK => ?_); simp only [push_cast, seval, Nat.reduceEqDiff, Nat.reduceLeDiff, reduceCtorEq]; (repeat refine sk ?_); refine hK _ ?_; clear hK K)
  ((repeat refine PWp.seq ?_); refine PWp.region TT (by rfl) (fun K hK => ?_); simp only [push_cast, seval, Nat.reduceEqDiff, Nat.reduceLeDiff, reduceCtorEq]; (repeat refine sk ?_); refine hK _ ?_; clear hK K)
  ((repeat refine PWp.seq ?_); refine PWp.region TT (by rfl) (fun K hK => ?_); simp only [push_cast, seval, Nat.reduceEqDiff, Nat.reduceLeDiff, reduceCtorEq]; (repeat refine sk ?_); refine hK _ ?_; clear hK K)
  ((repeat refine PWp.seq ?_); refine PWp.block ?_)
  refine PWp.loop (fun c st => ∃ k : Nat, c = l.length - k ∧ k ≤ l.length ∧ (∀ i < k, sideOk (l.getD i default) = true) ∧
    st = ⟨[(0, iPc l), (1, iL o), (2, iL a), (3, iL b), (9, .acc 0 7 (((l.take k).map (·.c)).map encC)), (10, iI k)], [(0, .row 52 7)], 1⟩) _ _ ⟨0, rfl, Nat.zero_le _, by simp, rfl⟩ (Gh.le (by simp [push_cast, -List.getD_eq_getElem?_getD]) (by simp)) ?_
  rintro c st ⟨k, rfl, hk, hf, rfl⟩
  ((repeat refine PWp.seq ?_); refine PWp.region TT (by rfl) (fun K hK => ?_); simp only [push_cast, seval, Nat.reduceEqDiff, Nat.reduceLeDiff, reduceCtorEq]; (repeat refine sk ?_); refine hK _ ?_; clear hK K)
  ((repeat refine PWp.seq ?_); refine PWp.cond (by simp only [push_cast, seval, Nat.reduceEqDiff, Nat.reduceLeDiff, reduceCtorEq]; rfl) (fun hc => ?_) (fun hc => ?_))
  · have hlt : k < l.length := by simpa using hc
    clear hc
    have hm : l.getD k default ∈ l := getD_mem hlt
    have hg : (l.map encPc).getD k .any = encPc (l.getD k default) := getD_map hlt
    have ht : (l.take (k + 1)).map (·.c) = (l.take k).map (·.c) ++ [(l.getD k default).c] := by rw [take_succ_getD hlt]; simp
    have htl : ((l.take k).map (·.c)).length ≤ 1000000 := by rw [List.length_map, List.length_take]; omega
    have good : sideOk (l.getD k default) = true → ∀ i < k + 1, sideOk (l.getD i default) = true := fun he i hi => by
      by_cases e : i = k
      · subst e; exact he
      · exact hf i (by omega)
    generalize l.getD k default = p at *
    ((repeat refine PWp.seq ?_); refine PWp.skip ?_)
    ((repeat refine PWp.seq ?_); refine PWp.block ?_)
    ((repeat refine PWp.seq ?_); refine PWp.region TT (by rfl) (fun K hK => ?_); simp only [push_cast, seval, Nat.reduceEqDiff, Nat.reduceLeDiff, reduceCtorEq, hg]; (repeat refine sk ?_); refine hK _ ?_; clear hK K)
    ((repeat refine PWp.seq ?_); refine PWp.cond (by simp only [push_cast, seval, Nat.reduceEqDiff, Nat.reduceLeDiff, reduceCtorEq]; rfl) (fun hc => ?_) (fun hc => ?_))
    · have e : fitsB o a b l = false := by
        unfold fitsB
        rw [Bool.and_eq_false_iff]
        left
        rw [← Bool.not_eq_true, List.all_eq_true]
        intro hh
        have := hh p hm
        simp only [sideOk, Bool.and_eq_true, decide_eq_true_eq] at this
        simp only [Bool.or_eq_true, Bool.and_eq_true, Bool.not_eq_true', Bool.not_eq_false', Bool.or_eq_false_iff, Bool.and_eq_false_iff, decide_eq_true_eq, decide_eq_false_iff_not, beq_iff_eq, beq_eq_false_iff_ne, bne_iff_ne, bne_eq_false_iff_eq, ne_eq, Classical.not_not, Int.not_lt, Int.not_le, ge_iff_le, gt_iff_lt] at hc
        omega
      ((repeat refine PWp.seq ?_); refine PWp.region TT (by rfl) (fun K hK => ?_); simp only [push_cast, seval, Nat.reduceEqDiff, Nat.reduceLeDiff, reduceCtorEq]; (repeat refine sk ?_); refine hK _ ?_; clear hK K)
      ((repeat refine PWp.seq ?_); refine PWp.ret ?_)
      refine ⟨.inr rfl, by omega, _, [], ?_, rfl, rfl⟩
      rw [e]
      (simp [push_cast, -List.getD_eq_getElem?_getD])
    · have hs : sideOk p = true := by
        simp only [sideOk, Bool.and_eq_true, decide_eq_true_eq]
        simp only [Bool.or_eq_true, Bool.and_eq_true, Bool.not_eq_true', Bool.not_eq_false', Bool.or_eq_false_iff, Bool.and_eq_false_iff, decide_eq_true_eq, decide_eq_false_iff_not, beq_iff_eq, beq_eq_false_iff_ne, bne_iff_ne, bne_eq_false_iff_eq, ne_eq, Classical.not_not, Int.not_lt, Int.not_le, ge_iff_le, gt_iff_lt] at hc
        omega
      clear hc
      ((repeat refine PWp.seq ?_); refine PWp.skip ?_)
      ((repeat refine PWp.seq ?_); refine PWp.region TT (by rfl) (fun K hK => ?_); simp only [push_cast, seval, Nat.reduceEqDiff, Nat.reduceLeDiff, reduceCtorEq, hg]; (repeat refine sk ?_); refine hK _ ?_; clear hK K)
      ((repeat refine PWp.seq ?_); refine PWp.region TT (by rfl) (fun K hK => ?_); simp only [push_cast, seval, Nat.reduceEqDiff, Nat.reduceLeDiff, reduceCtorEq, wrap64_id (n := (k : Int) + 1) (by omega) (by omega)]; (repeat refine sk ?_); refine hK _ ?_; clear hK K)
      refine ⟨_, _, ?_, ⟨k + 1, rfl, by omega, good hs, rfl⟩, Gh.le (by simp [push_cast, -List.getD_eq_getElem?_getD, ht]) (by simp)⟩
      omega
  · have hk' : k = l.length := by simp at hc; omega
    subst hk'
    rw [List.take_length]
    have ha : l.all sideOk = true := by
      rw [List.all_eq_true]
      intro q hq
      obtain ⟨i, hi, rfl⟩ := List.getElem_of_mem hq
      have := hf i hi
      rwa [show l.getD i default = l[i] by simp [List.getD, hi]] at this
    (repeat refine PWp.seq ?_); refine PWp.exit (iteT rfl ?_)
    ((repeat refine PWp.seq ?_); refine PWp.region TT (by rfl) (fun K hK => ?_); simp only [push_cast, seval, Nat.reduceEqDiff, Nat.reduceLeDiff, reduceCtorEq])
    ((repeat refine sk ?_); refine PCall.use (ref13_Right (l.map (·.c)) o.length a.length b.length (by rw [List.length_map]; omega)) [] rfl (by simp [push_cast]) (by simp) (by simp [push_cast]) (by simp [push_cast]) (by simp [push_cast]) (by simp [push_cast]) ?_)
    rintro _ _ ⟨rfl, rfl⟩
    (simp only [push_cast, seval, Nat.reduceEqDiff, Nat.reduceLeDiff, reduceCtorEq]; (repeat refine sk ?_); refine hK _ ?_; clear hK K)
    ((repeat refine PWp.seq ?_); refine PWp.ret ?_)
    refine ⟨.inr rfl, by omega, _, [], ?_, rfl, rfl⟩
    unfold fitsB
    rw [ha]
    (simp [push_cast, -List.getD_eq_getElem?_getD])
theorem ref14_Marked (l : List Pc) (o a b : List Ln) (hl : l.length ≤ 2000) (ho : o.length ≤ 1000) (ha : a.length ≤ 1000) (hb : b.length ≤ 1000) : PC Try.prog 22 [iPc l, iL o, iL a, iL b] [] 0 30 (fun t obs => t = .tup [iL (mkR l o a b), iI (mkE l o a b)] ∧ obs = []) := by
  have hbd : ∀ k, k ≤ l.length → (flatP o a b (l.take k)).length ≤ 6008000 := fun k hk => by
    have h1 := flatP_length o a b (l.take k)
    have h2 : (l.take k).length * (o.length + a.length + b.length + 4) ≤ 2000 * 3004 := Nat.mul_le_mul (by rw [List.length_take]; omega) (by omega)
    omega
  refine PC.body [8, 9] Try.func22 rfl (by rfl) (Nat.le_of_ble_eq_true (by rfl)) rfl ?_; simp only [enumA]
  ((repeat refine PWp.seq ?_); refine PWp.region TT (by rfl) (fun K hK => ?_); simp only [push_cast, seval, Nat.reduceEqDiff, Nat.reduceLeDiff, reduceCtorEq]; (repeat refine sk ?_); refine hK _ ?_; clear hK K)
  ((repeat refine PWp.seq ?_); refine PWp.region TT (by rfl) (fun K hK => ?_); simp only [push_cast, seval, Nat.reduceEqDiff, Nat.reduceLeDiff, reduceCtorEq])
  ((repeat refine sk ?_); refine PCall.use (ref14_fits o a b l (by omega)) [] rfl (by simp [push_cast]) (by simp) (by simp [push_cast]) (by simp [push_cast]) (by simp [push_cast]) (by simp [push_cast]) ?_)
  rintro _ _ ⟨rfl, rfl⟩
  (simp only [push_cast, seval, Nat.reduceEqDiff, Nat.reduceLeDiff, reduceCtorEq]; (repeat refine sk ?_); refine hK _ ?_; clear hK K)
  ((repeat refine PWp.seq ?_); refine PWp.cond (by simp only [push_cast, seval, Nat.reduceEqDiff, Nat.reduceLeDiff, reduceCtorEq]; rfl) (fun hc => ?_) (fun hc => ?_))
  · have e : fitsB o a b l = false := by simpa using hc
    have hE : mkE l o a b = 3 := by unfold mkE; rw [e]; rfl
    have hR : mkR l o a b = [] := by unfold mkR; rw [e]; rfl
    ((repeat refine PWp.seq ?_); refine PWp.region TT (by rfl) (fun K hK => ?_); simp only [push_cast, seval, Nat.reduceEqDiff, Nat.reduceLeDiff, reduceCtorEq]; (repeat refine sk ?_); refine hK _ ?_; clear hK K)
    ((repeat refine PWp.seq ?_); refine PWp.ret ?_)
    refine ⟨.inr rfl, by omega, _, [], ?_, rfl, rfl⟩
    rw [hE, hR]
    (simp [push_cast, -List.getD_eq_getElem?_getD])
  · have e : fitsB o a b l = true := by simpa using hc
    clear hc
    have hE : mkE l o a b = 0 := by unfold mkE; rw [e]; rfl
    have hR : mkR l o a b = evenL (flatP o a b l) := by unfold mkR; rw [e]; rfl
    have hin := fits_in (by omega) (by omega) (by omega) e
    ((repeat refine PWp.seq ?_); refine PWp.skip ?_)
    ((repeat refine PWp.seq ?_); refine PWp.region TT (by rfl) (fun K hK => ?_); simp only [push_cast, seval, Nat.reduceEqDiff, Nat.reduceLeDiff, reduceCtorEq]; (repeat refine sk ?_); refine hK _ ?_; clear hK K)
    ((repeat refine PWp.seq ?_); refine PWp.region TT (by rfl) (fun K hK => ?_); simp only [push_cast, seval, Nat.reduceEqDiff, Nat.reduceLeDiff, reduceCtorEq]; (repeat refine sk ?_); refine hK _ ?_; clear hK K)
    ((repeat refine PWp.seq ?_); refine PWp.block ?_)
    refine PWp.loop (fun c st => ∃ k : Nat, c = l.length - k ∧ k ≤ l.length ∧
      st = ⟨[(0, iPc l), (1, iL o), (2, iL a), (3, iL b), (10, .acc 0 2 ((flatP o a b (l.take k)).map encL)), (11, iI k)], [(0, .row 38 2)], 1⟩) _ _ ⟨0, rfl, Nat.zero_le _, rfl⟩ (Gh.leR [9] (by simp [push_cast, -List.getD_eq_getElem?_getD, flatP]; try decide)) ?_
    rintro c st ⟨k, rfl, hk, rfl⟩
    ((repeat refine PWp.seq ?_); refine PWp.region TT (by rfl) (fun K hK => ?_); simp only [push_cast, seval, Nat.reduceEqDiff, Nat.reduceLeDiff, reduceCtorEq]; (repeat refine sk ?_); refine hK _ ?_; clear hK K)
    ((repeat refine PWp.seq ?_); refine PWp.cond (by simp only [push_cast, seval, Nat.reduceEqDiff, Nat.reduceLeDiff, reduceCtorEq]; rfl) (fun hc => ?_) (fun hc => ?_))
    · have hlt : k < l.length := by simpa using hc
      clear hc
      have hps := flatP_succ o a b l hlt
      have hb1 := hbd k hk
      have hb2 := hbd (k + 1) hlt
      rw [hps, List.length_append] at hb2
      have hg : (l.map encPc).getD k .any = encPc (l.getD k default) := getD_map hlt
      obtain ⟨⟨i1, i2, i3⟩, hs1, hs2⟩ := hin _ (getD_mem hlt)
      generalize l.getD k default = p at *
      generalize hS : pieceL o a b p = S at *
      unfold pieceL at hS
      have l1 := lensL (segN o p.c.o p.c.on)
      have l2 := lensL (segN a p.c.a p.c.an)
      have l3 := lensL (segN b p.c.b p.c.bn)
      ((repeat refine PWp.seq ?_); refine PWp.skip ?_)
      ((repeat refine PWp.seq ?_); refine PWp.block ?_)
      ((repeat refine PWp.seq ?_); refine PWp.region TT (by rfl) (fun K hK => ?_); simp only [push_cast, seval, Nat.reduceEqDiff, Nat.reduceLeDiff, reduceCtorEq, hg]; (repeat refine sk ?_); refine hK _ ?_; clear hK K)
      ((repeat refine PWp.seq ?_); refine PWp.region TT (by rfl) (fun K hK => ?_); simp only [push_cast, seval, Nat.reduceEqDiff, Nat.reduceLeDiff, reduceCtorEq, hg]; (repeat refine sk ?_); refine hK _ ?_; clear hK K)
      ((repeat refine PWp.seq ?_); refine PWp.block ?_)
      ((repeat refine PWp.seq ?_); refine PWp.region TT (by rfl) (fun K hK => ?_); simp only [push_cast, seval, Nat.reduceEqDiff, Nat.reduceLeDiff, reduceCtorEq]; (repeat refine sk ?_); refine hK _ ?_; clear hK K)
      ((repeat refine PWp.seq ?_); refine PWp.cond (by simp only [push_cast, seval, Nat.reduceEqDiff, Nat.reduceLeDiff, reduceCtorEq]; rfl) (fun hc => ?_) (fun hc => ?_))
      · have e2 : p.side = 2 := by simpa using hc
        rw [if_pos e2] at hS
        subst hS
        ((repeat refine PWp.seq ?_); refine PWp.region TT (by rfl) (fun K hK => ?_); simp only [push_cast, seval, Nat.reduceEqDiff, Nat.reduceLeDiff, reduceCtorEq])
        ((repeat refine sk ?_); refine PCall.use (ref14_cut a p.c.a p.c.an i2) [] rfl (by simp [push_cast]) (by simp) (by simp [push_cast]) (by simp [push_cast]) (by simp [push_cast]) (by simp [push_cast]) ?_)
        rintro _ _ ⟨rfl, rfl⟩
        (simp only [push_cast, seval, Nat.reduceEqDiff, Nat.reduceLeDiff, reduceCtorEq, l2]; (repeat refine sk ?_); refine hK _ ?_; clear hK K)
        ((repeat refine PWp.seq ?_); refine PWp.region TT (by rfl) (fun K hK => ?_); simp only [push_cast, seval, Nat.reduceEqDiff, Nat.reduceLeDiff, reduceCtorEq, wrap64_id (n := (k : Int) + 1) (by omega) (by omega)]; (repeat refine sk ?_); refine hK _ ?_; clear hK K)
        refine ⟨_, _, ?_, ⟨k + 1, rfl, by omega, rfl⟩, Gh.le (by simp [push_cast, -List.getD_eq_getElem?_getD, hps]) (by simp)⟩
        omega
      · have e2 : p.side ≠ 2 := by simpa using hc
        clear hc
        rw [if_neg e2] at hS
        ((repeat refine PWp.seq ?_); refine PWp.region TT (by rfl) (fun K hK => ?_); simp only [push_cast, seval, Nat.reduceEqDiff, Nat.reduceLeDiff, reduceCtorEq]; (repeat refine sk ?_); refine hK _ ?_; clear hK K)
        ((repeat refine PWp.seq ?_); refine PWp.cond (by simp only [push_cast, seval, Nat.reduceEqDiff, Nat.reduceLeDiff, reduceCtorEq]; rfl) (fun hc => ?_) (fun hc => ?_))
        · have e4 : p.side = 4 := by simpa using hc
          rw [if_pos e4] at hS
          subst hS
          have hml : (markL (segN o p.c.o p.c.on) (segN a p.c.a p.c.an) (segN b p.c.b p.c.bn)).length = (segN a p.c.a p.c.an).length + (segN o p.c.o p.c.on).length + (segN b p.c.b p.c.bn).length + 4 := by simp [markL, mkLs]; omega
          rw [hml] at hb2
          ((repeat refine PWp.seq ?_); refine PWp.region TT (by rfl) (fun K hK => ?_); simp only [push_cast, seval, Nat.reduceEqDiff, Nat.reduceLeDiff, reduceCtorEq]; (repeat refine sk ?_); refine hK _ ?_; clear hK K)
          ((repeat refine PWp.seq ?_); refine PWp.region TT (by rfl) (fun K hK => ?_); simp only [push_cast, seval, Nat.reduceEqDiff, Nat.reduceLeDiff, reduceCtorEq])
          ((repeat refine sk ?_); refine PCall.use (ref14_cut a p.c.a p.c.an i2) [] rfl (by simp [push_cast]) (by simp) (by simp [push_cast]) (by simp [push_cast]) (by simp [push_cast]) (by simp [push_cast]) ?_)
          rintro _ _ ⟨rfl, rfl⟩
          (simp only [push_cast, seval, Nat.reduceEqDiff, Nat.reduceLeDiff, reduceCtorEq, l2]; (repeat refine sk ?_); refine hK _ ?_; clear hK K)
          ((repeat refine PWp.seq ?_); refine PWp.region TT (by rfl) (fun K hK => ?_); simp only [push_cast, seval, Nat.reduceEqDiff, Nat.reduceLeDiff, reduceCtorEq]; (repeat refine sk ?_); refine hK _ ?_; clear hK K)
          ((repeat refine PWp.seq ?_); refine PWp.region TT (by rfl) (fun K hK => ?_); simp only [push_cast, seval, Nat.reduceEqDiff, Nat.reduceLeDiff, reduceCtorEq])
          ((repeat refine sk ?_); refine PCall.use (ref14_cut o p.c.o p.c.on i1) [] rfl (by simp [push_cast]) (by simp) (by simp [push_cast]) (by simp [push_cast]) (by simp [push_cast]) (by simp [push_cast]) ?_)
          rintro _ _ ⟨rfl, rfl⟩
          (simp only [push_cast, seval, Nat.reduceEqDiff, Nat.reduceLeDiff, reduceCtorEq, l1]; (repeat refine sk ?_); refine hK _ ?_; clear hK K)
          ((repeat refine PWp.seq ?_); refine PWp.region TT (by rfl) (fun K hK => ?_); simp only [push_cast, seval, Nat.reduceEqDiff, Nat.reduceLeDiff, reduceCtorEq]; (repeat refine sk ?_); refine hK _ ?_; clear hK K)
          ((repeat refine PWp.seq ?_); refine PWp.region TT (by rfl) (fun K hK => ?_); simp only [push_cast, seval, Nat.reduceEqDiff, Nat.reduceLeDiff, reduceCtorEq])
          ((repeat refine sk ?_); refine PCall.use (ref14_cut b p.c.b p.c.bn i3) [] rfl (by simp [push_cast]) (by simp) (by simp [push_cast]) (by simp [push_cast]) (by simp [push_cast]) (by simp [push_cast]) ?_)
          rintro _ _ ⟨rfl, rfl⟩
          (simp only [push_cast, seval, Nat.reduceEqDiff, Nat.reduceLeDiff, reduceCtorEq, l3]; (repeat refine sk ?_); refine hK _ ?_; clear hK K)
          ((repeat refine PWp.seq ?_); refine PWp.region TT (by rfl) (fun K hK => ?_); simp only [push_cast, seval, Nat.reduceEqDiff, Nat.reduceLeDiff, reduceCtorEq]; (repeat refine sk ?_); refine hK _ ?_; clear hK K)
          ((repeat refine PWp.seq ?_); refine PWp.region TT (by rfl) (fun K hK => ?_); simp only [push_cast, seval, Nat.reduceEqDiff, Nat.reduceLeDiff, reduceCtorEq, wrap64_id (n := (k : Int) + 1) (by omega) (by omega)]; (repeat refine sk ?_); refine hK _ ?_; clear hK K)
          refine ⟨_, _, ?_, ⟨k + 1, rfl, by omega, rfl⟩, Gh.le (by simp [push_cast, -List.getD_eq_getElem?_getD, hps, markL, mkLs, mkMine, mkBase, mkEq, mkTheirs]) (by simp)⟩
          omega
        · have e4 : p.side ≠ 4 := by simpa using hc
          rw [if_neg e4] at hS
          subst hS
          ((repeat refine PWp.seq ?_); refine PWp.region TT (by rfl) (fun K hK => ?_); simp only [push_cast, seval, Nat.reduceEqDiff, Nat.reduceLeDiff, reduceCtorEq])
          ((repeat refine sk ?_); refine PCall.use (ref14_cut b p.c.b p.c.bn i3) [] rfl (by simp [push_cast]) (by simp) (by simp [push_cast]) (by simp [push_cast]) (by simp [push_cast]) (by simp [push_cast]) ?_)
          rintro _ _ ⟨rfl, rfl⟩
          (simp only [push_cast, seval, Nat.reduceEqDiff, Nat.reduceLeDiff, reduceCtorEq, l3]; (repeat refine sk ?_); refine hK _ ?_; clear hK K)
          ((repeat refine PWp.seq ?_); refine PWp.region TT (by rfl) (fun K hK => ?_); simp only [push_cast, seval, Nat.reduceEqDiff, Nat.reduceLeDiff, reduceCtorEq, wrap64_id (n := (k : Int) + 1) (by omega) (by omega)]; (repeat refine sk ?_); refine hK _ ?_; clear hK K)
          refine ⟨_, _, ?_, ⟨k + 1, rfl, by omega, rfl⟩, Gh.le (by simp [push_cast, -List.getD_eq_getElem?_getD, hps]) (by simp)⟩
          omega
    · have hk' : k = l.length := by simp at hc; omega
      subst hk'
      have hb1 := hbd l.length (Nat.le_refl _)
      rw [List.take_length] at *
      generalize flatP o a b l = f at *
      (repeat refine PWp.seq ?_); refine PWp.exit (iteT rfl ?_)
      ((repeat refine PWp.seq ?_); refine PWp.region TT (by rfl) (fun K hK => ?_); simp only [push_cast, seval, Nat.reduceEqDiff, Nat.reduceLeDiff, reduceCtorEq]; (repeat refine sk ?_); refine hK _ ?_; clear hK K)
      ((repeat refine PWp.seq ?_); refine PWp.region TT (by rfl) (fun K hK => ?_); simp only [push_cast, seval, Nat.reduceEqDiff, Nat.reduceLeDiff, reduceCtorEq]; (repeat refine sk ?_); refine hK _ ?_; clear hK K)
      ((repeat refine PWp.seq ?_); refine PWp.block ?_)
      refine PWp.loop (fun c st => ∃ k : Nat, c = f.length - k ∧ k ≤ f.length ∧
        st = ⟨[(10, iL f), (13, .acc 0 2 ((evenN f k).map encL)), (14, iI k)], [(0, .row 38 2)], 1⟩) _ _ ⟨0, rfl, Nat.zero_le _, rfl⟩ (Gh.leR [1] (by simp [push_cast, -List.getD_eq_getElem?_getD, evenN]; try decide)) ?_
      rintro c st ⟨k, rfl, hk, rfl⟩
      ((repeat refine PWp.seq ?_); refine PWp.region TT (by rfl) (fun K hK => ?_); simp only [push_cast, seval, Nat.reduceEqDiff, Nat.reduceLeDiff, reduceCtorEq]; (repeat refine sk ?_); refine hK _ ?_; clear hK K)
      ((repeat refine PWp.seq ?_); refine PWp.cond (by simp only [push_cast, seval, Nat.reduceEqDiff, Nat.reduceLeDiff, reduceCtorEq]; rfl) (fun hc => ?_) (fun hc => ?_))
      · have hlt : k < f.length := by simpa using hc
        clear hc
        have hml := evenN_length f k
        have hsucc : evenN f (k + 1) = evenN f k ++ [⟨(f.getD k default).t, (f.getD k default).b && decide (k + 1 = f.length)⟩] := by simp [evenN, List.range_succ]
        have hq : ((k : Int) + 1 == (f.length : Int)) = decide (k + 1 = f.length) := by
          rw [Bool.eq_iff_iff]; simp; omega
        ((repeat refine PWp.seq ?_); refine PWp.skip ?_)
        ((repeat refine PWp.seq ?_); refine PWp.block ?_)
        cases hbb : (f.getD k default).b with
        | false =>
          rw [hbb, Bool.false_and] at hsucc
          ((repeat refine PWp.seq ?_); refine PWp.drawT TT (by kernel_rfl) [] (.q 0 (.q 1 (.q 2 (.q 3 (.q 4 (.q 5 (.q 6 (.q 7 (.q 8 (.q 9 (.q 10 (.q 11 (.q 12 (.q 13 (.q 14 (.q 15 (.q 16 (.q 17 (.q 18 (.x 19 (.x 20 (.q 21 .nil)))))))))))))))))))))) (by rfl) (by kernel_rfl) (by rfl) (by simp) (fun K hK => ?_); simp only [push_cast, seval, Nat.reduceEqDiff, Nat.reduceLeDiff, reduceCtorEq, getD_map hlt, hbb, wrap64_id (n := (k : Int) + 1) (by omega) (by omega), hq]; (repeat refine sk ?_); refine hK _ ?_; clear hK K)
          ((repeat refine PWp.seq ?_); refine PWp.region TT (by rfl) (fun K hK => ?_); simp only [push_cast, seval, Nat.reduceEqDiff, Nat.reduceLeDiff, reduceCtorEq, wrap64_id (n := (k : Int) + 1) (by omega) (by omega)]; (repeat refine sk ?_); refine hK _ ?_; clear hK K)
          refine ⟨_, _, ?_, ⟨k + 1, rfl, by omega, rfl⟩, Gh.le (by simp [push_cast, -List.getD_eq_getElem?_getD, hsucc]) (by simp)⟩
          omega
        | true =>
          rw [hbb, Bool.true_and] at hsucc
          ((repeat refine PWp.seq ?_); refine PWp.drawT TT (by kernel_rfl) [] (.q 0 (.q 1 (.q 2 (.q 3 (.q 4 (.q 5 (.q 6 (.q 7 (.q 8 (.q 9 (.q 10 (.q 11 (.q 12 (.q 13 (.q 14 (.q 15 (.q 16 (.q 17 (.q 18 (.x 19 (.x 20 (.q 21 .nil)))))))))))))))))))))) (by rfl) (by kernel_rfl) (by rfl) (by simp) (fun K hK => ?_); simp only [push_cast, seval, Nat.reduceEqDiff, Nat.reduceLeDiff, reduceCtorEq, getD_map hlt, hbb, wrap64_id (n := (k : Int) + 1) (by omega) (by omega), hq]; (repeat refine sk ?_); refine hK _ ?_; clear hK K)
          ((repeat refine PWp.seq ?_); refine PWp.region TT (by rfl) (fun K hK => ?_); simp only [push_cast, seval, Nat.reduceEqDiff, Nat.reduceLeDiff, reduceCtorEq, wrap64_id (n := (k : Int) + 1) (by omega) (by omega)]; (repeat refine sk ?_); refine hK _ ?_; clear hK K)
          refine ⟨_, _, ?_, ⟨k + 1, rfl, by omega, rfl⟩, Gh.le (by simp [push_cast, -List.getD_eq_getElem?_getD, hsucc]) (by simp)⟩
          omega
      · have hk' : k = f.length := by simp at hc; omega
        subst hk'
        (repeat refine PWp.seq ?_); refine PWp.exit (iteT rfl ?_)
        ((repeat refine PWp.seq ?_); refine PWp.region TT (by rfl) (fun K hK => ?_); simp only [push_cast, seval, Nat.reduceEqDiff, Nat.reduceLeDiff, reduceCtorEq]; (repeat refine sk ?_); refine hK _ ?_; clear hK K)
        ((repeat refine PWp.seq ?_); refine PWp.ret ?_)
        refine ⟨.inr rfl, by omega, _, [], ?_, rfl, rfl⟩
        rw [hE, hR]
        (simp [push_cast, -List.getD_eq_getElem?_getD, evenL])
theorem any_false {α : Type} [Inhabited α] {p : List α} {f : α → Bool} (h : ∀ i < p.length, f (p.getD i default) = false) : p.any f = false := by
  rw [← Bool.not_eq_true, List.any_eq_true]
  rintro ⟨q, hq, hd⟩
  obtain ⟨i, hi, rfl⟩ := List.getElem_of_mem hq
  have := h i hi
  rw [show p.getD i default = p[i] by simp [List.getD, hi]] at this
  rw [this] at hd
  cases hd
theorem ref14_Of (o a b : List Ln) (oa ob : List (Int × Int)) (ha : oa.length ≤ 400) (hb : ob.length ≤ 400) : PC Try.prog 20 [iL o, iL a, iL b, .iv (.sl 2 (oa.map encP)), .iv (.sl 2 (ob.map encP))] [] 0 9
    (fun t obs => t = .tup [.iv (.sl 8 ((mofL o a b oa ob).map encPc)), iI (mofE o a b oa ob)] ∧ obs = []) := by
  refine PC.body [10, 11] Try.func20 rfl (by rfl) (Nat.le_of_ble_eq_true (by rfl)) rfl ?_; simp only [enumA]
  ((repeat refine PWp.seq ?_); refine PWp.region TT (by rfl) (fun K hK => ?_); simp only [push_cast, seval, Nat.reduceEqDiff, Nat.reduceLeDiff, reduceCtorEq]; (repeat refine sk ?_); refine hK _ ?_; clear hK K)
  ((repeat refine PWp.seq ?_); refine PWp.region TT (by rfl) (fun K hK => ?_); simp only [push_cast, seval, Nat.reduceEqDiff, Nat.reduceLeDiff, reduceCtorEq])
  ((repeat refine sk ?_); refine PCall.use (ref13_Of oa ob o.length a.length b.length ha hb) [] rfl (by simp [push_cast]) (by simp) (by simp [push_cast]) (by simp [push_cast]) (by simp [push_cast]) (by simp [push_cast]) ?_)
  rintro _ _ ⟨rfl, rfl⟩
  (simp only [push_cast, seval, Nat.reduceEqDiff, Nat.reduceLeDiff, reduceCtorEq]; (repeat refine sk ?_); refine hK _ ?_; clear hK K)
  ((repeat refine PWp.seq ?_); refine PWp.region TT (by rfl) (fun K hK => ?_); simp only [push_cast, seval, Nat.reduceEqDiff, Nat.reduceLeDiff, reduceCtorEq]; (repeat refine sk ?_); refine hK _ ?_; clear hK K)
  ((repeat refine PWp.seq ?_); refine PWp.cond (by simp only [push_cast, seval, Nat.reduceEqDiff, Nat.reduceLeDiff, reduceCtorEq]; rfl) (fun hc => ?_) (fun hc => ?_))
  · have e : ofE oa ob o.length a.length b.length ≠ 0 := by simpa using hc
    have hE : mofE o a b oa ob = ofE oa ob o.length a.length b.length := by unfold mofE; rw [if_pos e]
    have hL : mofL o a b oa ob = [] := by unfold mofL; rw [if_pos (by rw [hE]; exact e)]
    ((repeat refine PWp.seq ?_); refine PWp.region TT (by rfl) (fun K hK => ?_); simp only [push_cast, seval, Nat.reduceEqDiff, Nat.reduceLeDiff, reduceCtorEq]; (repeat refine sk ?_); refine hK _ ?_; clear hK K)
    ((repeat refine PWp.seq ?_); refine PWp.ret ?_)
    refine ⟨.inr rfl, by omega, _, [], ?_, rfl, rfl⟩
    rw [hE, hL]
    (simp [push_cast, -List.getD_eq_getElem?_getD])
  · have e : ofE oa ob o.length a.length b.length = 0 := by simpa using hc
    clear hc
    have hok := ofE_zero e
    obtain ⟨⟨k1, k2, k3⟩, r1, r2⟩ := okOf_spec hok
    have hE : mofE o a b oa ob = if oa.any (diff1 o a) || ob.any (diff1 o b) then 3 else 0 := by unfold mofE; rw [if_neg (by rw [e]; decide)]
    have hin : ∀ c ∈ ofL oa ob o.length a.length b.length, inT o a b c := fun c hc => ofL_inT hc
    have hll : (ofL oa ob o.length a.length b.length).length ≤ 1200 := by
      unfold ofL
      rw [if_pos hok]
      have := chunks_length (oa := oa) (ob := ob) (o := o.length) (a := a.length) (b := b.length) (meas o.length a.length b.length 0 0 0) 0 0 0
      unfold chunks
      have h2 : meas o.length a.length b.length 0 0 0 ≤ 1200 := by unfold meas; omega
      omega
    have bad : (oa.any (diff1 o a) || ob.any (diff1 o b)) = true → mofE o a b oa ob = 3 ∧ mofL o a b oa ob = [] := fun h => by
      have h3 : mofE o a b oa ob = 3 := by rw [hE, h]; rfl
      exact ⟨h3, by unfold mofL; rw [if_pos (by rw [h3]; decide)]⟩
    have hL : mofE o a b oa ob = 0 → mofL o a b oa ob = pcs o a b (ofL oa ob o.length a.length b.length) := fun h0 => by unfold mofL; rw [if_neg (by rw [h0]; decide)]
    have hp1 := right_inP r1
    have hp2 := right_inP r2
    generalize ofL oa ob o.length a.length b.length = l at *
    ((repeat refine PWp.seq ?_); refine PWp.skip ?_)
    ((repeat refine PWp.seq ?_); refine PWp.region TT (by rfl) (fun K hK => ?_); simp only [push_cast, seval, Nat.reduceEqDiff, Nat.reduceLeDiff, reduceCtorEq]; (repeat refine sk ?_); refine hK _ ?_; clear hK K)
    ((repeat refine PWp.seq ?_); refine PWp.block ?_)
    refine PWp.loop (fun c st => ∃ k : Nat, c = oa.length - k ∧ k ≤ oa.length ∧ (∀ i < k, diff1 o a (oa.getD i default) = false) ∧
      st = ⟨[(0, iL o), (1, iL a), (2, iL b), (3, .iv (.sl 2 (oa.map encP))), (4, .iv (.sl 2 (ob.map encP))), (12, .iv (.sl 7 (l.map encC))), (14, iI k)], [], 0⟩) _ _ ⟨0, rfl, Nat.zero_le _, by simp, rfl⟩ (Gh.le (by simp [push_cast, -List.getD_eq_getElem?_getD]) (by simp)) ?_
    rintro c st ⟨k, rfl, hk, hf, rfl⟩
    ((repeat refine PWp.seq ?_); refine PWp.region TT (by rfl) (fun K hK => ?_); simp only [push_cast, seval, Nat.reduceEqDiff, Nat.reduceLeDiff, reduceCtorEq]; (repeat refine sk ?_); refine hK _ ?_; clear hK K)
    ((repeat refine PWp.seq ?_); refine PWp.cond (by simp only [push_cast, seval, Nat.reduceEqDiff, Nat.reduceLeDiff, reduceCtorEq]; rfl) (fun hc => ?_) (fun hc => ?_))
    · have hlt : k < oa.length := by simpa using hc
      clear hc
      have hm : oa.getD k default ∈ oa := getD_mem hlt
      have hg : (oa.map encP).getD k .any = encP (oa.getD k default) := getD_map hlt
      have hi := hp1 _ hm
      have good : diff1 o a (oa.getD k default) = false → ∀ i < k + 1, diff1 o a (oa.getD i default) = false := fun he i hi => by
        by_cases e : i = k
        · subst e; exact he
        · exact hf i (by omega)
      generalize oa.getD k default = q at *
      unfold inP at hi
      have g1 : (o.map encL).getD q.1.toNat .any = encL (o.getD q.1.toNat default) := getD_map (by omega)
      have g2 : (a.map encL).getD q.2.toNat .any = encL (a.getD q.2.toNat default) := getD_map (by omega)
      ((repeat refine PWp.seq ?_); refine PWp.skip ?_)
      ((repeat refine PWp.seq ?_); refine PWp.block ?_)
      ((repeat refine PWp.seq ?_); refine PWp.draw TT (by kernel_rfl) (by kernel_rfl) (by rfl) (by rfl) (fun K hK => ?_); simp only [push_cast, seval, Nat.reduceEqDiff, Nat.reduceLeDiff, reduceCtorEq, hg, g1, g2]; (repeat refine sk ?_); refine hK _ ?_; clear hK K)
      ((repeat refine PWp.seq ?_); refine PWp.cond (by simp only [push_cast, seval, Nat.reduceEqDiff, Nat.reduceLeDiff, reduceCtorEq]; rfl) (fun hc => ?_) (fun hc => ?_))
      · have hd : diff1 o a q = true := hc
        obtain ⟨b1, b2⟩ := bad (by rw [List.any_eq_true.2 ⟨q, hm, hd⟩]; rfl)
        ((repeat refine PWp.seq ?_); refine PWp.region TT (by rfl) (fun K hK => ?_); simp only [push_cast, seval, Nat.reduceEqDiff, Nat.reduceLeDiff, reduceCtorEq]; (repeat refine sk ?_); refine hK _ ?_; clear hK K)
        ((repeat refine PWp.seq ?_); refine PWp.ret ?_)
        refine ⟨.inr rfl, by omega, _, [], ?_, rfl, rfl⟩
        rw [b1, b2]
        (simp [push_cast, -List.getD_eq_getElem?_getD])
      · have hd : diff1 o a q = false := hc
        ((repeat refine PWp.seq ?_); refine PWp.skip ?_)
        ((repeat refine PWp.seq ?_); refine PWp.region TT (by rfl) (fun K hK => ?_); simp only [push_cast, seval, Nat.reduceEqDiff, Nat.reduceLeDiff, reduceCtorEq, wrap64_id (n := (k : Int) + 1) (by omega) (by omega)]; (repeat refine sk ?_); refine hK _ ?_; clear hK K)
        refine ⟨_, _, ?_, ⟨k + 1, rfl, by omega, good hd, rfl⟩, Gh.le (by simp [push_cast, -List.getD_eq_getElem?_getD]) (by simp)⟩
        omega
    · have hk' : k = oa.length := by simp at hc; omega
      subst hk'
      have hd1 : oa.any (diff1 o a) = false := any_false hf
      clear hf
      (repeat refine PWp.seq ?_); refine PWp.exit (iteT rfl ?_)
      ((repeat refine PWp.seq ?_); refine PWp.region TT (by rfl) (fun K hK => ?_); simp only [push_cast, seval, Nat.reduceEqDiff, Nat.reduceLeDiff, reduceCtorEq]; (repeat refine sk ?_); refine hK _ ?_; clear hK K)
      ((repeat refine PWp.seq ?_); refine PWp.block ?_)
      refine PWp.loop (fun c st => ∃ k : Nat, c = ob.length - k ∧ k ≤ ob.length ∧ (∀ i < k, diff1 o b (ob.getD i default) = false) ∧
        st = ⟨[(0, iL o), (1, iL a), (2, iL b), (4, .iv (.sl 2 (ob.map encP))), (12, .iv (.sl 7 (l.map encC))), (15, iI k)], [], 0⟩) _ _ ⟨0, rfl, Nat.zero_le _, by simp, rfl⟩ (Gh.le (by simp [push_cast, -List.getD_eq_getElem?_getD]) (by simp)) ?_
      rintro c st ⟨k, rfl, hk, hf, rfl⟩
      ((repeat refine PWp.seq ?_); refine PWp.region TT (by rfl) (fun K hK => ?_); simp only [push_cast, seval, Nat.reduceEqDiff, Nat.reduceLeDiff, reduceCtorEq]; (repeat refine sk ?_); refine hK _ ?_; clear hK K)
      ((repeat refine PWp.seq ?_); refine PWp.cond (by simp only [push_cast, seval, Nat.reduceEqDiff, Nat.reduceLeDiff, reduceCtorEq]; rfl) (fun hc => ?_) (fun hc => ?_))
      · have hlt : k < ob.length := by simpa using hc
        clear hc
        have hm : ob.getD k default ∈ ob := getD_mem hlt
        have hg : (ob.map encP).getD k .any = encP (ob.getD k default) := getD_map hlt
        have hi := hp2 _ hm
        have good : diff1 o b (ob.getD k default) = false → ∀ i < k + 1, diff1 o b (ob.getD i default) = false := fun he i hi => by
          by_cases e : i = k
          · subst e; exact he
          · exact hf i (by omega)
        generalize ob.getD k default = q at *
        unfold inP at hi
        have g1 : (o.map encL).getD q.1.toNat .any = encL (o.getD q.1.toNat default) := getD_map (by omega)
        have g2 : (b.map encL).getD q.2.toNat .any = encL (b.getD q.2.toNat default) := getD_map (by omega)
        ((repeat refine PWp.seq ?_); refine PWp.skip ?_)
        ((repeat refine PWp.seq ?_); refine PWp.block ?_)
        ((repeat refine PWp.seq ?_); refine PWp.draw TT (by kernel_rfl) (by kernel_rfl) (by rfl) (by rfl) (fun K hK => ?_); simp only [push_cast, seval, Nat.reduceEqDiff, Nat.reduceLeDiff, reduceCtorEq, hg, g1, g2]; (repeat refine sk ?_); refine hK _ ?_; clear hK K)
        ((repeat refine PWp.seq ?_); refine PWp.cond (by simp only [push_cast, seval, Nat.reduceEqDiff, Nat.reduceLeDiff, reduceCtorEq]; rfl) (fun hc => ?_) (fun hc => ?_))
        · have hd : diff1 o b q = true := hc
          obtain ⟨b1, b2⟩ := bad (by rw [hd1, List.any_eq_true.2 ⟨q, hm, hd⟩]; rfl)
          ((repeat refine PWp.seq ?_); refine PWp.region TT (by rfl) (fun K hK => ?_); simp only [push_cast, seval, Nat.reduceEqDiff, Nat.reduceLeDiff, reduceCtorEq]; (repeat refine sk ?_); refine hK _ ?_; clear hK K)
          ((repeat refine PWp.seq ?_); refine PWp.ret ?_)
          refine ⟨.inr rfl, by omega, _, [], ?_, rfl, rfl⟩
          rw [b1, b2]
          (simp [push_cast, -List.getD_eq_getElem?_getD])
        · have hd : diff1 o b q = false := hc
          ((repeat refine PWp.seq ?_); refine PWp.skip ?_)
          ((repeat refine PWp.seq ?_); refine PWp.region TT (by rfl) (fun K hK => ?_); simp only [push_cast, seval, Nat.reduceEqDiff, Nat.reduceLeDiff, reduceCtorEq, wrap64_id (n := (k : Int) + 1) (by omega) (by omega)]; (repeat refine sk ?_); refine hK _ ?_; clear hK K)
          refine ⟨_, _, ?_, ⟨k + 1, rfl, by omega, good hd, rfl⟩, Gh.le (by simp [push_cast, -List.getD_eq_getElem?_getD]) (by simp)⟩
          omega
      · have hk' : k = ob.length := by simp at hc; omega
        subst hk'
        have hd2 : ob.any (diff1 o b) = false := any_false hf
        have hE0 : mofE o a b oa ob = 0 := by rw [hE, hd1, hd2]; rfl
        have hL0 := hL hE0
        clear hf bad hE
        (repeat refine PWp.seq ?_); refine PWp.exit (iteT rfl ?_)
        ((repeat refine PWp.seq ?_); refine PWp.region TT (by rfl) (fun K hK => ?_); simp only [push_cast, seval, Nat.reduceEqDiff, Nat.reduceLeDiff, reduceCtorEq]; (repeat refine sk ?_); refine hK _ ?_; clear hK K)
        ((repeat refine PWp.seq ?_); refine PWp.region TT (by rfl) (fun K hK => ?_); simp only [push_cast, seval, Nat.reduceEqDiff, Nat.reduceLeDiff, reduceCtorEq]; (repeat refine sk ?_); refine hK _ ?_; clear hK K)
        ((repeat refine PWp.seq ?_); refine PWp.block ?_)
        refine PWp.loop (fun c st => ∃ k : Nat, c = l.length - k ∧ k ≤ l.length ∧
          st = ⟨[(0, iL o), (1, iL a), (2, iL b), (12, .iv (.sl 7 (l.map encC))), (16, .acc 0 8 ((pcs o a b (l.take k)).map encPc)), (17, iI k)], [(0, .row 54 8)], 1⟩) _ _ ⟨0, rfl, Nat.zero_le _, rfl⟩ (Gh.le (by simp [push_cast, -List.getD_eq_getElem?_getD, pcs]) (by simp)) ?_
        rintro c st ⟨k, rfl, hk, rfl⟩
        ((repeat refine PWp.seq ?_); refine PWp.region TT (by rfl) (fun K hK => ?_); simp only [push_cast, seval, Nat.reduceEqDiff, Nat.reduceLeDiff, reduceCtorEq]; (repeat refine sk ?_); refine hK _ ?_; clear hK K)
        ((repeat refine PWp.seq ?_); refine PWp.cond (by simp only [push_cast, seval, Nat.reduceEqDiff, Nat.reduceLeDiff, reduceCtorEq]; rfl) (fun hc => ?_) (fun hc => ?_))
        · have hlt : k < l.length := by simpa using hc
          clear hc
          have hps := pcs_succ o a b l hlt
          have hpl : (pcs o a b (l.take k)).length ≤ 1200 := by unfold pcs; rw [List.length_map, List.length_take]; omega
          have hg : (l.map encC).getD k .any = encC (l.getD k default) := getD_map hlt
          obtain ⟨i1, i2, i3⟩ := hin _ (getD_mem hlt)
          generalize l.getD k default = q at *
          have l1 := segN_le i1
          have l2 := segN_le i2
          have l3 := segN_le i3
          generalize hS : sideF o a b q = S at *
          unfold sideF at hS
          ((repeat refine PWp.seq ?_); refine PWp.skip ?_)
          ((repeat refine PWp.seq ?_); refine PWp.block ?_)
          ((repeat refine PWp.seq ?_); refine PWp.region TT (by rfl) (fun K hK => ?_); simp only [push_cast, seval, Nat.reduceEqDiff, Nat.reduceLeDiff, reduceCtorEq, hg]; (repeat refine sk ?_); refine hK _ ?_; clear hK K)
          ((repeat refine PWp.seq ?_); refine PWp.region TT (by rfl) (fun K hK => ?_); simp only [push_cast, seval, Nat.reduceEqDiff, Nat.reduceLeDiff, reduceCtorEq])
          ((repeat refine sk ?_); refine PCall.use (ref14_cut o q.o q.on i1) [] rfl (by simp [push_cast]) (by simp) (by simp [push_cast]) (by simp [push_cast]) (by simp [push_cast]) (by simp [push_cast]) ?_)
          rintro _ _ ⟨rfl, rfl⟩
          generalize segN o q.o q.on = x at *
          (simp only [push_cast, seval, Nat.reduceEqDiff, Nat.reduceLeDiff, reduceCtorEq]; (repeat refine sk ?_); refine hK _ ?_; clear hK K)
          ((repeat refine PWp.seq ?_); refine PWp.region TT (by rfl) (fun K hK => ?_); simp only [push_cast, seval, Nat.reduceEqDiff, Nat.reduceLeDiff, reduceCtorEq])
          ((repeat refine sk ?_); refine PCall.use (ref14_cut a q.a q.an i2) [] rfl (by simp [push_cast]) (by simp) (by simp [push_cast]) (by simp [push_cast]) (by simp [push_cast]) (by simp [push_cast]) ?_)
          rintro _ _ ⟨rfl, rfl⟩
          generalize segN a q.a q.an = y at *
          (simp only [push_cast, seval, Nat.reduceEqDiff, Nat.reduceLeDiff, reduceCtorEq]; (repeat refine sk ?_); refine hK _ ?_; clear hK K)
          ((repeat refine PWp.seq ?_); refine PWp.region TT (by rfl) (fun K hK => ?_); simp only [push_cast, seval, Nat.reduceEqDiff, Nat.reduceLeDiff, reduceCtorEq])
          ((repeat refine sk ?_); refine PCall.use (ref14_cut b q.b q.bn i3) [] rfl (by simp [push_cast]) (by simp) (by simp [push_cast]) (by simp [push_cast]) (by simp [push_cast]) (by simp [push_cast]) ?_)
          rintro _ _ ⟨rfl, rfl⟩
          generalize segN b q.b q.bn = z at *
          (simp only [push_cast, seval, Nat.reduceEqDiff, Nat.reduceLeDiff, reduceCtorEq]; (repeat refine sk ?_); refine hK _ ?_; clear hK K)
          ((repeat refine PWp.seq ?_); refine PWp.region TT (by rfl) (fun K hK => ?_); simp only [push_cast, seval, Nat.reduceEqDiff, Nat.reduceLeDiff, reduceCtorEq]; (repeat refine sk ?_); refine hK _ ?_; clear hK K)
          cases hs : q.s with
          | true =>
            rw [if_pos (.inl hs)] at hS
            subst hS
            ((repeat refine PWp.seq ?_); refine PWp.region TT (by rfl) (fun K hK => ?_); simp only [push_cast, seval, Nat.reduceEqDiff, Nat.reduceLeDiff, reduceCtorEq, hs]; (repeat refine sk ?_); refine hK _ ?_; clear hK K)
            ((repeat refine PWp.seq ?_); refine PWp.cond (by simp only [push_cast, seval, Nat.reduceEqDiff, Nat.reduceLeDiff, reduceCtorEq]; rfl) (fun hc => ?_) (fun hc => ?_))
            · ((repeat refine PWp.seq ?_); refine PWp.region TT (by rfl) (fun K hK => ?_); simp only [push_cast, seval, Nat.reduceEqDiff, Nat.reduceLeDiff, reduceCtorEq]; (repeat refine sk ?_); refine hK _ ?_; clear hK K)
              ((repeat refine PWp.seq ?_); refine PWp.region TT (by rfl) (fun K hK => ?_); simp only [push_cast, seval, Nat.reduceEqDiff, Nat.reduceLeDiff, reduceCtorEq]; (repeat refine sk ?_); refine hK _ ?_; clear hK K)
              ((repeat refine PWp.seq ?_); refine PWp.region TT (by rfl) (fun K hK => ?_); simp only [push_cast, seval, Nat.reduceEqDiff, Nat.reduceLeDiff, reduceCtorEq, wrap64_id (n := (k : Int) + 1) (by omega) (by omega)]; (repeat refine sk ?_); refine hK _ ?_; clear hK K)
              refine ⟨_, _, ?_, ⟨k + 1, rfl, by omega, rfl⟩, Gh.le (by simp [push_cast, -List.getD_eq_getElem?_getD, hps, hs]) (by simp)⟩
              omega
            · cases hc
          | false =>
            ((repeat refine PWp.seq ?_); refine PWp.region TT (by rfl) (fun K hK => ?_); simp only [push_cast, seval, Nat.reduceEqDiff, Nat.reduceLeDiff, reduceCtorEq, hs])
            ((repeat refine sk ?_); refine PCall.use (ref01_Same y z (Nat.le_trans l2 (by decide))) [] rfl (by simp [push_cast]) (by simp) (by simp [push_cast]) (by simp [push_cast]) (by simp [push_cast]) (by simp [push_cast]) ?_)
            rintro _ _ ⟨rfl, rfl⟩
            (simp only [push_cast, seval, Nat.reduceEqDiff, Nat.reduceLeDiff, reduceCtorEq, hs]; (repeat refine sk ?_); refine hK _ ?_; clear hK K)
            ((repeat refine PWp.seq ?_); refine PWp.cond (by simp only [push_cast, seval, Nat.reduceEqDiff, Nat.reduceLeDiff, reduceCtorEq]; rfl) (fun hc => ?_) (fun hc => ?_))
            · have e1 : y = z := by simpa using hc
              rw [if_pos (.inr e1)] at hS
              subst hS
              ((repeat refine PWp.seq ?_); refine PWp.region TT (by rfl) (fun K hK => ?_); simp only [push_cast, seval, Nat.reduceEqDiff, Nat.reduceLeDiff, reduceCtorEq]; (repeat refine sk ?_); refine hK _ ?_; clear hK K)
              ((repeat refine PWp.seq ?_); refine PWp.region TT (by rfl) (fun K hK => ?_); simp only [push_cast, seval, Nat.reduceEqDiff, Nat.reduceLeDiff, reduceCtorEq]; (repeat refine sk ?_); refine hK _ ?_; clear hK K)
              ((repeat refine PWp.seq ?_); refine PWp.region TT (by rfl) (fun K hK => ?_); simp only [push_cast, seval, Nat.reduceEqDiff, Nat.reduceLeDiff, reduceCtorEq, wrap64_id (n := (k : Int) + 1) (by omega) (by omega)]; (repeat refine sk ?_); refine hK _ ?_; clear hK K)
              refine ⟨_, _, ?_, ⟨k + 1, rfl, by omega, rfl⟩, Gh.le (by simp [push_cast, -List.getD_eq_getElem?_getD, hps, hs]) (by simp)⟩
              omega
            · have e1 : y ≠ z := by simpa using hc
              clear hc
              rw [if_neg (by simp [e1, hs])] at hS
              ((repeat refine PWp.seq ?_); refine PWp.region TT (by rfl) (fun K hK => ?_); simp only [push_cast, seval, Nat.reduceEqDiff, Nat.reduceLeDiff, reduceCtorEq])
              ((repeat refine sk ?_); refine PCall.use (ref01_Same x y (Nat.le_trans l1 (by decide))) [] rfl (by simp [push_cast]) (by simp) (by simp [push_cast]) (by simp [push_cast]) (by simp [push_cast]) (by simp [push_cast]) ?_)
              rintro _ _ ⟨rfl, rfl⟩
              (simp only [push_cast, seval, Nat.reduceEqDiff, Nat.reduceLeDiff, reduceCtorEq]; (repeat refine sk ?_); refine hK _ ?_; clear hK K)
              ((repeat refine PWp.seq ?_); refine PWp.cond (by simp only [push_cast, seval, Nat.reduceEqDiff, Nat.reduceLeDiff, reduceCtorEq]; rfl) (fun hc => ?_) (fun hc => ?_))
              · have e2 : x = y := by simpa using hc
                rw [if_pos e2.symm] at hS
                subst hS
                ((repeat refine PWp.seq ?_); refine PWp.region TT (by rfl) (fun K hK => ?_); simp only [push_cast, seval, Nat.reduceEqDiff, Nat.reduceLeDiff, reduceCtorEq]; (repeat refine sk ?_); refine hK _ ?_; clear hK K)
                ((repeat refine PWp.seq ?_); refine PWp.region TT (by rfl) (fun K hK => ?_); simp only [push_cast, seval, Nat.reduceEqDiff, Nat.reduceLeDiff, reduceCtorEq]; (repeat refine sk ?_); refine hK _ ?_; clear hK K)
                ((repeat refine PWp.seq ?_); refine PWp.region TT (by rfl) (fun K hK => ?_); simp only [push_cast, seval, Nat.reduceEqDiff, Nat.reduceLeDiff, reduceCtorEq, wrap64_id (n := (k : Int) + 1) (by omega) (by omega)]; (repeat refine sk ?_); refine hK _ ?_; clear hK K)
                refine ⟨_, _, ?_, ⟨k + 1, rfl, by omega, rfl⟩, Gh.le (by simp [push_cast, -List.getD_eq_getElem?_getD, hps, hs]) (by simp)⟩
                omega
              · have e2 : x ≠ y := by simpa using hc
                clear hc
                rw [if_neg (fun h => e2 h.symm)] at hS
                ((repeat refine PWp.seq ?_); refine PWp.region TT (by rfl) (fun K hK => ?_); simp only [push_cast, seval, Nat.reduceEqDiff, Nat.reduceLeDiff, reduceCtorEq])
                ((repeat refine sk ?_); refine PCall.use (ref01_Same x z (Nat.le_trans l1 (by decide))) [] rfl (by simp [push_cast]) (by simp) (by simp [push_cast]) (by simp [push_cast]) (by simp [push_cast]) (by simp [push_cast]) ?_)
                rintro _ _ ⟨rfl, rfl⟩
                (simp only [push_cast, seval, Nat.reduceEqDiff, Nat.reduceLeDiff, reduceCtorEq]; (repeat refine sk ?_); refine hK _ ?_; clear hK K)
                ((repeat refine PWp.seq ?_); refine PWp.cond (by simp only [push_cast, seval, Nat.reduceEqDiff, Nat.reduceLeDiff, reduceCtorEq]; rfl) (fun hc => ?_) (fun hc => ?_))
                · have e3 : x = z := by simpa using hc
                  rw [if_pos e3.symm] at hS
                  subst hS
                  ((repeat refine PWp.seq ?_); refine PWp.region TT (by rfl) (fun K hK => ?_); simp only [push_cast, seval, Nat.reduceEqDiff, Nat.reduceLeDiff, reduceCtorEq]; (repeat refine sk ?_); refine hK _ ?_; clear hK K)
                  ((repeat refine PWp.seq ?_); refine PWp.region TT (by rfl) (fun K hK => ?_); simp only [push_cast, seval, Nat.reduceEqDiff, Nat.reduceLeDiff, reduceCtorEq]; (repeat refine sk ?_); refine hK _ ?_; clear hK K)
                  ((repeat refine PWp.seq ?_); refine PWp.region TT (by rfl) (fun K hK => ?_); simp only [push_cast, seval, Nat.reduceEqDiff, Nat.reduceLeDiff, reduceCtorEq, wrap64_id (n := (k : Int) + 1) (by omega) (by omega)]; (repeat refine sk ?_); refine hK _ ?_; clear hK K)
                  refine ⟨_, _, ?_, ⟨k + 1, rfl, by omega, rfl⟩, Gh.le (by simp [push_cast, -List.getD_eq_getElem?_getD, hps, hs]) (by simp)⟩
                  omega
                · have e3 : x ≠ z := by simpa using hc
                  rw [if_neg (fun h => e3 h.symm)] at hS
                  subst hS
                  ((repeat refine PWp.seq ?_); refine PWp.skip ?_)
                  ((repeat refine PWp.seq ?_); refine PWp.region TT (by rfl) (fun K hK => ?_); simp only [push_cast, seval, Nat.reduceEqDiff, Nat.reduceLeDiff, reduceCtorEq]; (repeat refine sk ?_); refine hK _ ?_; clear hK K)
                  ((repeat refine PWp.seq ?_); refine PWp.region TT (by rfl) (fun K hK => ?_); simp only [push_cast, seval, Nat.reduceEqDiff, Nat.reduceLeDiff, reduceCtorEq, wrap64_id (n := (k : Int) + 1) (by omega) (by omega)]; (repeat refine sk ?_); refine hK _ ?_; clear hK K)
                  refine ⟨_, _, ?_, ⟨k + 1, rfl, by omega, rfl⟩, Gh.le (by simp [push_cast, -List.getD_eq_getElem?_getD, hps, hs]) (by simp)⟩
                  omega
        · have hk' : k = l.length := by simp at hc; omega
          subst hk'
          rw [List.take_length]
          (repeat refine PWp.seq ?_); refine PWp.exit (iteT rfl ?_)
          ((repeat refine PWp.seq ?_); refine PWp.region TT (by rfl) (fun K hK => ?_); simp only [push_cast, seval, Nat.reduceEqDiff, Nat.reduceLeDiff, reduceCtorEq]; (repeat refine sk ?_); refine hK _ ?_; clear hK K)
          ((repeat refine PWp.seq ?_); refine PWp.ret ?_)
          refine ⟨.inr rfl, by omega, _, [], ?_, rfl, rfl⟩
          rw [hE0, hL0]
          (simp [push_cast, -List.getD_eq_getElem?_getD])
set_option maxRecDepth 100000
set_option linter.unusedSimpArgs false
set_option linter.unusedVariables false
theorem pcEq {x y : Pc} (h : x.side = y.side ∧ x.c.s = y.c.s ∧ x.c.o = y.c.o ∧ x.c.on = y.c.on ∧ x.c.a = y.c.a ∧ x.c.an = y.c.an ∧ x.c.b = y.c.b ∧ x.c.bn = y.c.bn) : x = y := by
  obtain ⟨s, c⟩ := x
  obtain ⟨s', c'⟩ := y
  simp only at h
  rw [h.1, Ck.ext' h.2]
theorem mn_take {α : Type} (l : List α) (n : Nat) : l.take (mn (l.length : Int) n).toNat = l.take n := by
  unfold mn
  split
  · rfl
  · rw [List.take_of_length_le (by simp), List.take_of_length_le (by omega)]
def lnX : List Ln := [⟨[120], false⟩]
def lnY : List Ln := [⟨[121], false⟩]
def lnZ : List Ln := [⟨[122], false⟩]
def lvO : List Pc := [⟨3, ⟨false, 0, 1, 0, 1, 0, 1⟩⟩]
theorem evenL_length (l : List Ln) : (evenL l).length = l.length := evenN_length _ _
theorem flatP_len {l : List Pc} {o a b : List Ln} (hl : l.length ≤ 2000) (ho : o.length ≤ 1000) (ha : a.length ≤ 1000) (hb : b.length ≤ 1000) : (flatP o a b l).length ≤ 6008000 := by
  have h1 := flatP_length o a b l
  have h2 : l.length * (o.length + a.length + b.length + 4) ≤ 2000 * 3004 := Nat.mul_le_mul hl (by omega)
  omega
theorem few_len (l : List Ln) : (l.take 40).length ≤ 40 := by rw [List.length_take]; omega
theorem small_mk {l : List Pc} {o a b : List Ln} (hl : l.length ≤ 40) (ho : o.length ≤ 40) (ha : a.length ≤ 40) (hb : b.length ≤ 40) : (mkR l o a b).length ≤ 1000000 ∧ (lnR l o a b).length ≤ 1000000 := by
  have h1 := flatP_length o a b l
  have h2 : l.length * (o.length + a.length + b.length + 4) ≤ 40 * 124 := Nat.mul_le_mul hl (by omega)
  refine ⟨?_, ?_⟩
  · unfold mkR; split
    · rw [evenL_length]; omega
    · simp
  · unfold lnR; split
    · split
      · rw [evenL_length]; omega
      · simp
    · simp
theorem mofL_length {o a b : List Ln} {oa ob : List (Int × Int)} : (mofL o a b oa ob).length ≤ 1200 := by
  unfold mofL
  split
  · simp
  · unfold pcs ofL
    rw [List.length_map]
    split
    · rename_i hok
      obtain ⟨⟨k1, k2, k3⟩, r1, r2⟩ := okOf_spec hok
      have := chunks_length (oa := oa) (ob := ob) (o := o.length) (a := a.length) (b := b.length) (meas o.length a.length b.length 0 0 0) 0 0 0
      unfold chunks
      have h2 : meas o.length a.length b.length 0 0 0 ≤ 1200 := by unfold meas; omega
      omega
    · simp
