/- merge.From: where the lines of pieces are from; and what it says of a merge without a clash. -/
import Derived.Test.YtjcdmdejhbmoeaaT7
namespace Go.Proofs.Ytjcdmdejhbmoeaa
open Go.PL
set_option maxRecDepth 100000
set_option linter.unusedSimpArgs false
set_option linter.unusedVariables false
structure Pl where
  th : Bool
  i : Int
  deriving DecidableEq, Inhabited
def encPl (p : Pl) : IV := .agg [.lit (.bool p.th), .lit (.int .i64 p.i)]
def iPl (l : List Pl) : TV := .iv (.sl 2 (l.map encPl))
def cellsP (p : Pc) : List TV := .iv (.lit (.int .i64 p.side)) :: cellsC p.c
attribute [push_cast] encPl iPl cellsP
theorem lensPl (l : List Pl) : lens? 2 (l.map encPl) := lens_map (f := encPl) (fun a => ⟨trivial, rfl⟩) l
def plF (p : Pc) : Int := if p.side = 2 then p.c.a else p.c.b
def plN (p : Pc) : Int := if p.side = 2 then p.c.an else p.c.bn
def plK (th : Bool) (f : Int) (k : Nat) : List Pl := (List.range k).map fun i : Nat => ⟨th, f + i⟩
theorem plK_length (th : Bool) (f : Int) (k : Nat) : (plK th f k).length = k := by simp [plK]
theorem plK_succ (th : Bool) (f : Int) (k : Nat) : plK th f (k + 1) = plK th f k ++ [⟨th, f + k⟩] := by simp [plK, List.range_succ]
def plP (p : Pc) : List Pl := plK (p.side != 2) (plF p) (plN p).toNat
def plL (l : List Pc) : List Pl := (l.map plP).flatten
theorem plL_succ (l : List Pc) {k : Nat} (h : k < l.length) : plL (l.take (k + 1)) = plL (l.take k) ++ plP (l.getD k default) := by
  unfold plL
  rw [take_succ_getD h]
  simp
theorem plL_cons (p : Pc) (l : List Pc) : plL (p :: l) = plP p ++ plL l := by simp [plL]
theorem flatP_cons (o a b : List Ln) (p : Pc) (l : List Pc) : flatP o a b (p :: l) = pieceL o a b p ++ flatP o a b l := by simp [flatP]
theorem plL_len : ∀ {l : List Pc}, (∀ p ∈ l, plN p ≤ 40) → (plL l).length ≤ 40 * l.length
  | [], _ => by simp [plL]
  | p :: l, h => by
    have h1 := h p (List.mem_cons_self ..)
    have h2 := plL_len (l := l) (fun q hq => h q (List.mem_cons_of_mem _ hq))
    have h3 : (plP p).length = (plN p).toNat := plK_length _ _ _
    rw [plL_cons, List.length_append, h3, List.length_cons]
    omega
def sumB : List Pc → Int
  | [] => 0
  | p :: l => p.c.bn + sumB l
theorem sumB_app (l k : List Pc) : sumB (l ++ k) = sumB l + sumB k := by
  induction l with
  | nil => simp [sumB]
  | cons p l ih => simp only [List.cons_append, sumB, ih]; omega
theorem sumB_succ (l : List Pc) {k : Nat} (h : k < l.length) : sumB (l.take (k + 1)) = sumB (l.take k) + (l.getD k default).c.bn := by
  rw [take_succ_getD h, sumB_app]
  simp [sumB]
theorem rightC_b {o a b : Int} (ho : o ≤ 1000000) (ha : a ≤ 1000000) (hb : b ≤ 1000000) : ∀ {l : List Pc} {x y z : Int}, 0 ≤ x → x ≤ o → 0 ≤ y → y ≤ a → 0 ≤ z → z ≤ b → rightC o a b (l.map (·.c)) x y z = true →
    z + sumB l = b ∧ ∀ k, k < l.length → (l.getD k default).c.b = z + sumB (l.take k)
  | [], x, y, z, x0, x1, y0, y1, z0, z1, h => by
    simp only [List.map_nil, rightC, Bool.and_eq_true, beq_iff_eq] at h
    exact ⟨by simp only [sumB]; omega, fun k hk => by simp at hk⟩
  | d :: l, x, y, z, x0, x1, y0, y1, z0, z1, h => by
    simp only [List.map_cons, rightC, Bool.and_eq_true, decide_eq_true_eq] at h
    obtain ⟨hk, h⟩ := h
    unfold okC at hk
    rw [wrap64_id (n := o - x) (by omega) (by omega), wrap64_id (n := a - y) (by omega) (by omega), wrap64_id (n := b - z) (by omega) (by omega)] at hk
    rw [wrap64_id (n := x + d.c.on) (by omega) (by omega), wrap64_id (n := y + d.c.an) (by omega) (by omega), wrap64_id (n := z + d.c.bn) (by omega) (by omega)] at h
    obtain ⟨h1, h2⟩ := rightC_b ho ha hb (by omega) (by omega) (by omega) (by omega) (by omega) (by omega) h
    refine ⟨by simp only [sumB]; omega, fun k hk' => ?_⟩
    cases k with
    | zero => simp [sumB]; omega
    | succ k =>
      have := h2 k (by simpa using hk')
      simp only [List.getD_cons_succ, List.take_succ_cons, sumB]
      omega
theorem merge_From (o a b : List Ln) (l : List Pc) (hfit : fitsB o a b l = true) (hl : l.length ≤ 1000000) (ho : o.length ≤ 40) (ha : a.length ≤ 40) (hb : b.length ≤ 40) :
    PC Try.prog 18 [iPc l, iI b.length] [] 0 50 (fun t obs => t = .tup [iPl (if cleanB l then plL l else []), iI (if cleanB l then 0 else 10)] ∧ obs = []) := by
  have hin := fits_in (by omega) (by omega) (by omega) hfit
  have hb0 := hfit
  unfold fitsB at hb0
  rw [Bool.and_eq_true] at hb0
  obtain ⟨hB1, hB2⟩ := rightC_b (by omega) (by omega) (by omega) (by omega) (by omega) (by omega) (by omega) (by omega) (by omega) hb0.2
  clear hb0
  have hN : ∀ p ∈ l, plN p ≤ 40 := fun p hp => by
    obtain ⟨⟨h1, h2, h3⟩, _⟩ := hin p hp
    unfold inL at h1 h2 h3
    unfold plN
    split <;> omega
  refine PC.body [4, 5] Try.func18 rfl (by rfl) (Nat.le_of_ble_eq_true (by rfl)) rfl ?_; simp only [enumA]
  ((repeat refine PWp.seq ?_); refine PWp.region TT (by rfl) (fun K hK => ?_); simp only [push_cast, seval, Nat.reduceEqDiff, Nat.reduceLeDiff, reduceCtorEq]; (repeat refine sk ?_); refine hK _ ?_; clear hK K)
  ((repeat refine PWp.seq ?_); refine PWp.region TT (by rfl) (fun K hK => ?_); simp only [push_cast, seval, Nat.reduceEqDiff, Nat.reduceLeDiff, reduceCtorEq]; (repeat refine sk ?_); refine hK _ ?_; clear hK K)
  ((repeat refine PWp.seq ?_); refine PWp.region TT (by rfl) (fun K hK => ?_); simp only [push_cast, seval, Nat.reduceEqDiff, Nat.reduceLeDiff, reduceCtorEq]; (repeat refine sk ?_); refine hK _ ?_; clear hK K)
  ((repeat refine PWp.seq ?_); refine PWp.block ?_)
  refine PWp.loop (fun c st => ∃ k : Nat, c = l.length - k ∧ k ≤ l.length ∧ 0 ≤ sumB (l.take k) ∧ sumB (l.take k) ≤ b.length ∧
    st = ⟨[(0, iPc l), (1, iI b.length), (6, iI (sumB (l.take k))), (16, iPc l), (17, iI l.length), (18, iI k)], [], 0⟩) _ _ ⟨0, rfl, Nat.zero_le _, by simp [sumB], by simp [sumB], rfl⟩ (Gh.le (by simp [push_cast, -List.getD_eq_getElem?_getD, sumB]) (by simp)) ?_
  rintro c st ⟨k, rfl, hk, hs0, hs1, rfl⟩
  ((repeat refine PWp.seq ?_); refine PWp.region TT (by rfl) (fun K hK => ?_); simp only [push_cast, seval, Nat.reduceEqDiff, Nat.reduceLeDiff, reduceCtorEq]; (repeat refine sk ?_); refine hK _ ?_; clear hK K)
  ((repeat refine PWp.seq ?_); refine PWp.cond (by simp only [push_cast, seval, Nat.reduceEqDiff, Nat.reduceLeDiff, reduceCtorEq]; rfl) (fun hc => ?_) (fun hc => ?_))
  · have hlt : k < l.length := by simpa using hc
    clear hc
    have hg : (l.map encPc).getD k .any = encPc (l.getD k default) := getD_map hlt
    have hss := sumB_succ l hlt
    have hbk := hB2 k hlt
    obtain ⟨⟨h1, h2, h3⟩, _⟩ := hin _ (getD_mem hlt)
    unfold inL at h1 h2 h3
    generalize l.getD k default = p at *
    generalize sumB (l.take k) = S at *
    ((repeat refine PWp.seq ?_); refine PWp.skip ?_)
    ((repeat refine PWp.seq ?_); refine PWp.block ?_)
    ((repeat refine PWp.seq ?_); refine PWp.region TT (by rfl) (fun K hK => ?_); simp only [push_cast, seval, Nat.reduceEqDiff, Nat.reduceLeDiff, reduceCtorEq, hg]; (repeat refine sk ?_); refine hK _ ?_; clear hK K)
    ((repeat refine PWp.seq ?_); refine PWp.region TT (by rfl) (fun K hK => ?_); simp only [push_cast, seval, Nat.reduceEqDiff, Nat.reduceLeDiff, reduceCtorEq, hg]; (repeat refine sk ?_); refine hK _ ?_; clear hK K)
    ((repeat refine PWp.seq ?_); refine PWp.region TT (by rfl) (fun K hK => ?_); simp only [push_cast, seval, Nat.reduceEqDiff, Nat.reduceLeDiff, reduceCtorEq, wrap64_id (n := (b.length : Int) - S) (by omega) (by omega)]; (repeat refine sk ?_); refine hK _ ?_; clear hK K)
    ((repeat refine PWp.seq ?_); refine PWp.cond (by simp only [push_cast, seval, Nat.reduceEqDiff, Nat.reduceLeDiff, reduceCtorEq]; rfl) (fun hc => ?_) (fun hc => ?_))
    · exfalso
      simp only [Bool.or_eq_true, Bool.and_eq_true, Bool.not_eq_true', Bool.not_eq_false', Bool.or_eq_false_iff, Bool.and_eq_false_iff, decide_eq_true_eq, decide_eq_false_iff_not, beq_iff_eq, beq_eq_false_iff_ne, bne_iff_ne, bne_eq_false_iff_eq, ne_eq, Classical.not_not, Int.not_lt, Int.not_le, ge_iff_le, gt_iff_lt] at hc
      omega
    · clear hc
      ((repeat refine PWp.seq ?_); refine PWp.skip ?_)
      ((repeat refine PWp.seq ?_); refine PWp.region TT (by rfl) (fun K hK => ?_); simp only [push_cast, seval, Nat.reduceEqDiff, Nat.reduceLeDiff, reduceCtorEq, wrap64_id (n := S + p.c.bn) (by omega) (by omega)]; (repeat refine sk ?_); refine hK _ ?_; clear hK K)
      ((repeat refine PWp.seq ?_); refine PWp.region TT (by rfl) (fun K hK => ?_); simp only [push_cast, seval, Nat.reduceEqDiff, Nat.reduceLeDiff, reduceCtorEq, wrap64_id (n := (k : Int) + 1) (by omega) (by omega)]; (repeat refine sk ?_); refine hK _ ?_; clear hK K)
      refine ⟨_, _, ?_, ⟨k + 1, rfl, by omega, by omega, by omega, rfl⟩, Gh.le (by simp [push_cast, -List.getD_eq_getElem?_getD, hss]) (by simp)⟩
      omega
  · have hk' : k = l.length := by simp at hc; omega
    subst hk'
    rw [List.take_length] at *
    (repeat refine PWp.seq ?_); refine PWp.exit (iteT rfl ?_)
    ((repeat refine PWp.seq ?_); refine PWp.block ?_)
    ((repeat refine PWp.seq ?_); refine PWp.region TT (by rfl) (fun K hK => ?_); simp only [push_cast, seval, Nat.reduceEqDiff, Nat.reduceLeDiff, reduceCtorEq]; (repeat refine sk ?_); refine hK _ ?_; clear hK K)
    ((repeat refine PWp.seq ?_); refine PWp.cond (by simp only [push_cast, seval, Nat.reduceEqDiff, Nat.reduceLeDiff, reduceCtorEq]; rfl) (fun hc => ?_) (fun hc => ?_))
    · exfalso
      simp at hc
      omega
    · clear hc
      ((repeat refine PWp.seq ?_); refine PWp.region TT (by rfl) (fun K hK => ?_); simp only [push_cast, seval, Nat.reduceEqDiff, Nat.reduceLeDiff, reduceCtorEq])
      ((repeat refine sk ?_); refine PCall.use (merge_Clean l (by omega)) [] rfl (by simp [push_cast]) (by simp) (by simp [push_cast]) (by simp [push_cast]) (by simp [push_cast]) (by simp [push_cast]) ?_)
      rintro _ _ ⟨rfl, rfl⟩
      cases hcl : cleanB l with
      | false =>
        (simp only [push_cast, seval, Nat.reduceEqDiff, Nat.reduceLeDiff, reduceCtorEq])
        ((repeat refine sk ?_); refine hK _ ?_; clear hK K)
        ((repeat refine PWp.seq ?_); refine PWp.cond (by simp only [push_cast, seval, Nat.reduceEqDiff, Nat.reduceLeDiff, reduceCtorEq]; rfl) (fun hc => ?_) (fun hc => ?_))
        · ((repeat refine PWp.seq ?_); refine PWp.region TT (by rfl) (fun K hK => ?_); simp only [push_cast, seval, Nat.reduceEqDiff, Nat.reduceLeDiff, reduceCtorEq]; (repeat refine sk ?_); refine hK _ ?_; clear hK K)
          ((repeat refine PWp.seq ?_); refine PWp.ret ?_)
          refine ⟨.inr rfl, by omega, _, [], ?_, rfl, rfl⟩
          (simp [push_cast, -List.getD_eq_getElem?_getD, hcl])
        · cases hc
      | true =>
        (simp only [push_cast, seval, Nat.reduceEqDiff, Nat.reduceLeDiff, reduceCtorEq])
        ((repeat refine sk ?_); refine hK _ ?_; clear hK K)
        ((repeat refine PWp.seq ?_); refine PWp.cond (by simp only [push_cast, seval, Nat.reduceEqDiff, Nat.reduceLeDiff, reduceCtorEq]; rfl) (fun hc => ?_) (fun hc => ?_))
        · cases hc
        · clear hc
          ((repeat refine PWp.seq ?_); refine PWp.skip ?_)
          ((repeat refine PWp.seq ?_); refine PWp.region TT (by rfl) (fun K hK => ?_); simp only [push_cast, seval, Nat.reduceEqDiff, Nat.reduceLeDiff, reduceCtorEq]; (repeat refine sk ?_); refine hK _ ?_; clear hK K)
          refine PWp.gh (Gh.row 10 46 2 (by rfl)) ?_
          ((repeat refine PWp.seq ?_); refine PWp.region TT (by rfl) (fun K hK => ?_); simp only [push_cast, seval, Nat.reduceEqDiff, Nat.reduceLeDiff, reduceCtorEq]; (repeat refine sk ?_); refine hK _ ?_; clear hK K)
          ((repeat refine PWp.seq ?_); refine PWp.block ?_)
          refine PWp.loop (fun c st => ∃ k : Nat, c = l.length - k ∧ k ≤ l.length ∧
            st = ⟨[(10, .acc 0 2 ((plL (l.take k)).map encPl)), (74, iPc l), (75, iI l.length), (76, iI k)], [(0, .row 46 2)], 1⟩) _ _ ⟨0, rfl, Nat.zero_le _, rfl⟩ (Gh.le (by simp [push_cast, -List.getD_eq_getElem?_getD, plL]) (by simp)) ?_
          rintro c st ⟨k, rfl, hk, rfl⟩
          ((repeat refine PWp.seq ?_); refine PWp.region TT (by rfl) (fun K hK => ?_); simp only [push_cast, seval, Nat.reduceEqDiff, Nat.reduceLeDiff, reduceCtorEq]; (repeat refine sk ?_); refine hK _ ?_; clear hK K)
          ((repeat refine PWp.seq ?_); refine PWp.cond (by simp only [push_cast, seval, Nat.reduceEqDiff, Nat.reduceLeDiff, reduceCtorEq]; rfl) (fun hc => ?_) (fun hc => ?_))
          · have hlt : k < l.length := by simpa using hc
            clear hc
            have hg : (l.map encPc).getD k .any = encPc (l.getD k default) := getD_map hlt
            have hsucc := plL_succ l hlt
            have hpb : (plL (l.take k)).length ≤ 40 * (l.take k).length := plL_len (fun p hp => hN p (List.mem_of_mem_take hp))
            rw [List.length_take] at hpb
            obtain ⟨⟨h1, h2, h3⟩, _⟩ := hin _ (getD_mem hlt)
            unfold inL at h1 h2 h3
            generalize l.getD k default = p at *
            unfold plP plF plN at hsucc
            ((repeat refine PWp.seq ?_); refine PWp.skip ?_)
            ((repeat refine PWp.seq ?_); refine PWp.block ?_)
            ((repeat refine PWp.seq ?_); refine PWp.region TT (by rfl) (fun K hK => ?_); simp only [push_cast, seval, Nat.reduceEqDiff, Nat.reduceLeDiff, reduceCtorEq, hg]; (repeat refine sk ?_); refine hK _ ?_; clear hK K)
            ((repeat refine PWp.seq ?_); refine PWp.draw TT (by kernel_rfl) (by kernel_rfl) (by rfl) (by rfl) (fun K hK => ?_); simp only [push_cast, seval, Nat.reduceEqDiff, Nat.reduceLeDiff, reduceCtorEq]; (repeat refine sk ?_); refine hK _ ?_; clear hK K)
            ((repeat refine PWp.seq ?_); refine PWp.region TT (by rfl) (fun K hK => ?_); simp only [push_cast, seval, Nat.reduceEqDiff, Nat.reduceLeDiff, reduceCtorEq]; (repeat refine sk ?_); refine hK _ ?_; clear hK K)
            ((repeat refine PWp.seq ?_); refine PWp.cond (by simp only [push_cast, seval, Nat.reduceEqDiff, Nat.reduceLeDiff, reduceCtorEq]; rfl) (fun hc => ?_) (fun hc => ?_))
            · have hs : p.side = 2 := by simpa using hc
              clear hc
              have hth : (p.side != 2) = false := by rw [hs]; rfl
              rw [if_pos hs, if_pos hs, hth] at hsucc
              ((repeat refine PWp.seq ?_); refine PWp.draw TT (by kernel_rfl) (by kernel_rfl) (by rfl) (by rfl) (fun K hK => ?_); simp only [push_cast, seval, Nat.reduceEqDiff, Nat.reduceLeDiff, reduceCtorEq]; (repeat refine sk ?_); refine hK _ ?_; clear hK K)
              ((repeat refine PWp.seq ?_); refine PWp.region TT (by rfl) (fun K hK => ?_); simp only [push_cast, seval, Nat.reduceEqDiff, Nat.reduceLeDiff, reduceCtorEq]; (repeat refine sk ?_); refine hK _ ?_; clear hK K)
              ((repeat refine PWp.seq ?_); refine PWp.block ?_)
              refine PWp.loop (fun c st => ∃ j : Nat, c = (p.c.an).toNat - j ∧ j ≤ (p.c.an).toNat ∧
                st = ⟨[(10, .acc 0 2 ((plL (l.take k) ++ plK false (p.c.a) j).map encPl)), (12, .bptr 1 0), (13, iI (p.c.a)), (74, iPc l), (75, iI l.length), (76, iI k), (95, iI (p.c.an)), (96, iI j)], [(0, .row 46 2), (1, .box 38 (cellsP p))], 2⟩) _ _ ⟨0, rfl, Nat.zero_le _, rfl⟩ (Gh.le (by simp [push_cast, -List.getD_eq_getElem?_getD, plK]) (by simp)) ?_
              rintro c st ⟨j, rfl, hj, rfl⟩
              ((repeat refine PWp.seq ?_); refine PWp.region TT (by rfl) (fun K hK => ?_); simp only [push_cast, seval, Nat.reduceEqDiff, Nat.reduceLeDiff, reduceCtorEq]; (repeat refine sk ?_); refine hK _ ?_; clear hK K)
              ((repeat refine PWp.seq ?_); refine PWp.cond (by simp only [push_cast, seval, Nat.reduceEqDiff, Nat.reduceLeDiff, reduceCtorEq]; rfl) (fun hc => ?_) (fun hc => ?_))
              · have hjl : j < (p.c.an).toNat := by simp at hc; omega
                clear hc
                have hpl : (plL (l.take k) ++ plK false (p.c.a) j).length ≤ 100000000 := by rw [List.length_append, plK_length]; omega
                have hps : plK false (p.c.a) (j + 1) = plK false (p.c.a) j ++ [⟨false, (p.c.a) + j⟩] := plK_succ _ _ _
                ((repeat refine PWp.seq ?_); refine PWp.skip ?_)
                ((repeat refine PWp.seq ?_); refine PWp.block ?_)
                ((repeat refine PWp.seq ?_); refine PWp.region TT (by rfl) (fun K hK => ?_); simp only [push_cast, seval, Nat.reduceEqDiff, Nat.reduceLeDiff, reduceCtorEq]; (repeat refine sk ?_); refine hK _ ?_; clear hK K)
                ((repeat refine PWp.seq ?_); refine PWp.region TT (by rfl) (fun K hK => ?_); simp only [push_cast, seval, Nat.reduceEqDiff, Nat.reduceLeDiff, reduceCtorEq, hth, wrap64_id (n := (p.c.a) + (j : Int)) (by omega) (by omega)]; (repeat refine sk ?_); refine hK _ ?_; clear hK K)
                ((repeat refine PWp.seq ?_); refine PWp.region TT (by rfl) (fun K hK => ?_); simp only [push_cast, seval, Nat.reduceEqDiff, Nat.reduceLeDiff, reduceCtorEq, wrap64_id (n := (j : Int) + 1) (by omega) (by omega)]; (repeat refine sk ?_); refine hK _ ?_; clear hK K)
                refine ⟨_, _, ?_, ⟨j + 1, rfl, by omega, rfl⟩, Gh.le (by simp [push_cast, -List.getD_eq_getElem?_getD, hps]) (by simp)⟩
                omega
              · have hj' : j = (p.c.an).toNat := by simp at hc; omega
                subst hj'
                (repeat refine PWp.seq ?_); refine PWp.exit (iteT rfl ?_)
                ((repeat refine PWp.seq ?_); refine PWp.region TT (by rfl) (fun K hK => ?_); simp only [push_cast, seval, Nat.reduceEqDiff, Nat.reduceLeDiff, reduceCtorEq, wrap64_id (n := (k : Int) + 1) (by omega) (by omega)]; (repeat refine sk ?_); refine hK _ ?_; clear hK K)
                refine ⟨_, _, ?_, ⟨k + 1, rfl, by omega, rfl⟩, Gh.le (by simp [push_cast, -List.getD_eq_getElem?_getD, hsucc]) (by simp)⟩
                omega
            · have hs : p.side ≠ 2 := by simpa using hc
              clear hc
              have hth : (p.side != 2) = true := by simpa using hs
              rw [if_neg hs, if_neg hs, hth] at hsucc
              ((repeat refine PWp.seq ?_); refine PWp.skip ?_)
              ((repeat refine PWp.seq ?_); refine PWp.region TT (by rfl) (fun K hK => ?_); simp only [push_cast, seval, Nat.reduceEqDiff, Nat.reduceLeDiff, reduceCtorEq]; (repeat refine sk ?_); refine hK _ ?_; clear hK K)
              ((repeat refine PWp.seq ?_); refine PWp.block ?_)
              refine PWp.loop (fun c st => ∃ j : Nat, c = (p.c.bn).toNat - j ∧ j ≤ (p.c.bn).toNat ∧
                st = ⟨[(10, .acc 0 2 ((plL (l.take k) ++ plK true (p.c.b) j).map encPl)), (12, .bptr 1 0), (13, iI (p.c.b)), (74, iPc l), (75, iI l.length), (76, iI k), (95, iI (p.c.bn)), (96, iI j)], [(0, .row 46 2), (1, .box 38 (cellsP p))], 2⟩) _ _ ⟨0, rfl, Nat.zero_le _, rfl⟩ (Gh.le (by simp [push_cast, -List.getD_eq_getElem?_getD, plK]) (by simp)) ?_
              rintro c st ⟨j, rfl, hj, rfl⟩
              ((repeat refine PWp.seq ?_); refine PWp.region TT (by rfl) (fun K hK => ?_); simp only [push_cast, seval, Nat.reduceEqDiff, Nat.reduceLeDiff, reduceCtorEq]; (repeat refine sk ?_); refine hK _ ?_; clear hK K)
              ((repeat refine PWp.seq ?_); refine PWp.cond (by simp only [push_cast, seval, Nat.reduceEqDiff, Nat.reduceLeDiff, reduceCtorEq]; rfl) (fun hc => ?_) (fun hc => ?_))
              · have hjl : j < (p.c.bn).toNat := by simp at hc; omega
                clear hc
                have hpl : (plL (l.take k) ++ plK true (p.c.b) j).length ≤ 100000000 := by rw [List.length_append, plK_length]; omega
                have hps : plK true (p.c.b) (j + 1) = plK true (p.c.b) j ++ [⟨true, (p.c.b) + j⟩] := plK_succ _ _ _
                ((repeat refine PWp.seq ?_); refine PWp.skip ?_)
                ((repeat refine PWp.seq ?_); refine PWp.block ?_)
                ((repeat refine PWp.seq ?_); refine PWp.region TT (by rfl) (fun K hK => ?_); simp only [push_cast, seval, Nat.reduceEqDiff, Nat.reduceLeDiff, reduceCtorEq]; (repeat refine sk ?_); refine hK _ ?_; clear hK K)
                ((repeat refine PWp.seq ?_); refine PWp.region TT (by rfl) (fun K hK => ?_); simp only [push_cast, seval, Nat.reduceEqDiff, Nat.reduceLeDiff, reduceCtorEq, hth, wrap64_id (n := (p.c.b) + (j : Int)) (by omega) (by omega)]; (repeat refine sk ?_); refine hK _ ?_; clear hK K)
                ((repeat refine PWp.seq ?_); refine PWp.region TT (by rfl) (fun K hK => ?_); simp only [push_cast, seval, Nat.reduceEqDiff, Nat.reduceLeDiff, reduceCtorEq, wrap64_id (n := (j : Int) + 1) (by omega) (by omega)]; (repeat refine sk ?_); refine hK _ ?_; clear hK K)
                refine ⟨_, _, ?_, ⟨j + 1, rfl, by omega, rfl⟩, Gh.le (by simp [push_cast, -List.getD_eq_getElem?_getD, hps]) (by simp)⟩
                omega
              · have hj' : j = (p.c.bn).toNat := by simp at hc; omega
                subst hj'
                (repeat refine PWp.seq ?_); refine PWp.exit (iteT rfl ?_)
                ((repeat refine PWp.seq ?_); refine PWp.region TT (by rfl) (fun K hK => ?_); simp only [push_cast, seval, Nat.reduceEqDiff, Nat.reduceLeDiff, reduceCtorEq, wrap64_id (n := (k : Int) + 1) (by omega) (by omega)]; (repeat refine sk ?_); refine hK _ ?_; clear hK K)
                refine ⟨_, _, ?_, ⟨k + 1, rfl, by omega, rfl⟩, Gh.le (by simp [push_cast, -List.getD_eq_getElem?_getD, hsucc]) (by simp)⟩
                omega
          · have hk' : k = l.length := by simp at hc; omega
            subst hk'
            rw [List.take_length]
            (repeat refine PWp.seq ?_); refine PWp.exit (iteT rfl ?_)
            ((repeat refine PWp.seq ?_); refine PWp.region TT (by rfl) (fun K hK => ?_); simp only [push_cast, seval, Nat.reduceEqDiff, Nat.reduceLeDiff, reduceCtorEq]; (repeat refine sk ?_); refine hK _ ?_; clear hK K)
            ((repeat refine PWp.seq ?_); refine PWp.ret ?_)
            refine ⟨.inr rfl, by omega, _, [], ?_, rfl, rfl⟩
            (simp [push_cast, -List.getD_eq_getElem?_getD, hcl])
/-! ### What it says of a merge without a clash -/
def txtP (a b : List Ln) (q : Pl) : List UInt8 := ((if q.th then b else a).getD q.i.toNat default).t
def okPl (a b : List Ln) (q : Pl) : Prop := 0 ≤ q.i ∧ q.i < ((if q.th then b else a).length : Int)
theorem segN_get {l : List Ln} {i n : Int} (h : inL l i n) {j : Nat} (hj : (j : Int) < n) : (segN l i n).getD j default = l.getD (i + j).toNat default := by
  unfold inL at h
  unfold segN
  have e : (i + (j : Int)).toNat = i.toNat + j := by omega
  rw [e]
  simp only [List.getD, List.getElem?_drop, List.getElem?_take]
  rw [if_pos (by omega)]
theorem segN_eq {l : List Ln} {i n : Int} (h : inL l i n) : (segN l i n).map (·.t) = (List.range n.toNat).map fun j => (l.getD (i + (j : Nat)).toNat default).t := by
  have hl := segN_length h
  unfold inL at h
  apply List.ext_getElem
  · simp; omega
  · intro j h1 h2
    simp only [List.length_map, List.length_range] at h1 h2
    rw [List.getElem_map, List.getElem_map, List.getElem_range, ← segN_get (by unfold inL; omega) (by omega : (j : Int) < n)]
    congr 1
    simp [List.getD, h1]
theorem plP_text {o a b : List Ln} {p : Pc} (h : inT o a b p.c) (h4 : p.side ≠ 4) : (plP p).map (txtP a b) = (pieceL o a b p).map (·.t) ∧ ∀ q ∈ plP p, okPl a b q := by
  obtain ⟨h1, h2, h3⟩ := h
  have b2 := h2
  have b3 := h3
  unfold inL at b2 b3
  unfold plP plF plN pieceL plK
  by_cases hs : p.side = 2
  · rw [if_pos hs, if_pos hs, if_pos hs, segN_eq h2, List.map_map, hs]
    refine ⟨List.map_congr_left fun j hj => by simp [txtP], fun q hq => ?_⟩
    obtain ⟨j, hj, rfl⟩ := List.mem_map.1 hq
    rw [List.mem_range] at hj
    simp only [okPl, bne_self_eq_false, Bool.false_eq_true, if_false]
    omega
  · have ht : (p.side != 2) = true := by simpa using hs
    rw [if_neg hs, if_neg hs, if_neg hs, if_neg h4, segN_eq h3, List.map_map, ht]
    refine ⟨List.map_congr_left fun j hj => by simp [txtP], fun q hq => ?_⟩
    obtain ⟨j, hj, rfl⟩ := List.mem_map.1 hq
    rw [List.mem_range] at hj
    simp only [okPl, if_true]
    omega
theorem plL_text {o a b : List Ln} : ∀ {l : List Pc}, (∀ p ∈ l, inT o a b p.c) → cleanB l = true → (plL l).map (txtP a b) = (flatP o a b l).map (·.t) ∧ ∀ q ∈ plL l, okPl a b q
  | [], _, _ => ⟨rfl, by simp [plL]⟩
  | p :: l, h, hc => by
    have hc' : p.side ≠ 4 ∧ cleanB l = true := by
      simp only [cleanB, List.any_cons, clashB, Bool.not_eq_true', Bool.or_eq_false_iff, beq_eq_false_iff_ne] at hc ⊢
      exact hc
    obtain ⟨e1, e2⟩ := plP_text (h p (List.mem_cons_self ..)) hc'.1
    obtain ⟨e3, e4⟩ := plL_text (l := l) (fun q hq => h q (List.mem_cons_of_mem _ hq)) hc'.2
    rw [plL_cons, flatP_cons, List.map_append, List.map_append, e1, e3]
    refine ⟨rfl, fun q hq => ?_⟩
    rcases List.mem_append.1 hq with hq | hq
    · exact e2 q hq
    · exact e4 q hq
theorem evenL_text (l : List Ln) : (evenL l).map (·.t) = l.map (·.t) := by
  apply List.ext_getElem
  · simp [evenL_length]
  · intro j h1 h2
    simp only [List.length_map] at h2
    simp [evenL, evenN, h2]
/-- A merge without a clash: each line has the text of its place. -/
theorem keeps {o a b : List Ln} {l : List Pc} (h : ∀ p ∈ l, inT o a b p.c) (hc : cleanB l = true) : (plL l).length = (evenL (flatP o a b l)).length ∧
    ∀ k, k < (plL l).length → okPl a b ((plL l).getD k default) ∧ txtP a b ((plL l).getD k default) = ((evenL (flatP o a b l)).getD k default).t := by
  obtain ⟨e1, e2⟩ := plL_text h hc
  rw [← evenL_text] at e1
  have hl : (plL l).length = (evenL (flatP o a b l)).length := by
    have := congrArg List.length e1
    simpa using this
  refine ⟨hl, fun k hk => ⟨e2 _ (getD_mem hk), ?_⟩⟩
  have h1 : ((plL l).map (txtP a b))[k]? = ((evenL (flatP o a b l)).map (·.t))[k]? := by rw [e1]
  simp only [List.getElem?_map, List.getElem?_eq_getElem hk, List.getElem?_eq_getElem (hl ▸ hk), Option.map_some, Option.some.injEq] at h1
  simp only [List.getD, List.getElem?_eq_getElem hk, List.getElem?_eq_getElem (hl ▸ hk), Option.getD_some]
  exact h1
end Go.Proofs.Ytjcdmdejhbmoeaa
