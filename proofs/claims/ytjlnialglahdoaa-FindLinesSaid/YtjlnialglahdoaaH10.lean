/- The document's answer: Parse. -/
import Derived.Test.YtjlnialglahdoaaH9
namespace Go.Proofs.Ytjlnialglahdoaa
open Go.PL
set_option maxRecDepth 100000
set_option linter.unusedSimpArgs false
set_option linter.unusedVariables false
/-- The bytes of a part. -/
def qB (p : Pt) : List Nat := if p.k = 0 then [] else if p.k = 1 then List.range 256 else if p.k = 2 then [p.c.toNat] else wiF p.s 256
def encQ (p : Pt) : IV := .agg [.lit (.bool (decide (p.k = 0))), if p.k = 0 then .sl 0 [] else .sl 1 ((qB p).map encU)]
def iQ (l : List Pt) : TV := .iv (.sl 2 (l.map encQ))
attribute [push_cast] iQ
theorem encQ_any : encQ ptAny = .agg [.lit (.bool true), .sl 0 []] := rfl
theorem encQ_all : encQ ptAll = .agg [.lit (.bool false), .sl 1 ((List.range 256).map encU)] := rfl
theorem encQ_byte (c : UInt8) : encQ (ptOne c) = .agg [.lit (.bool false), .sl 1 [.lit (.int .u8 c.toNat)]] := rfl
theorem encQ_set (s : List UInt8) : encQ (ptSet s) = .agg [.lit (.bool false), .sl 1 ((wiF s 256).map encU)] := rfl
theorem index_scan : ∀ (r : List UInt8) (c : UInt8) (k : Nat), (∀ j, j < k → r.getD j 0 ≠ c) → k ≤ r.length → (k = r.length → Lib.indexByte r c = -1) ∧ (k < r.length → r.getD k 0 = c → Lib.indexByte r c = k)
  | [], c, k, _, hk => ⟨fun _ => rfl, fun h => absurd h (by simp)⟩
  | x :: r, c, 0, _, hk => ⟨fun h => (by simp at h), fun _ h => by
      have : x = c := h
      subst this
      simp [Lib.indexByte]⟩
  | x :: r, c, k + 1, hj, hk => by
    have hx : x ≠ c := hj 0 (by omega)
    obtain ⟨h1, h2⟩ := index_scan r c k (fun j h => hj (j + 1) (by omega)) (by simpa using hk)
    refine ⟨fun h => ?_, fun h h' => ?_⟩
    · unfold Lib.indexByte
      rw [if_neg (by simpa using hx), h1 (by simpa using h)]
      simp
    · unfold Lib.indexByte
      have h3 := h2 (by simpa using h) h'
      rw [if_neg (by simpa using hx), h3, if_neg (by simp)]
      simp
set_option maxHeartbeats 2000000 in
theorem ref_Parse (p : List UInt8) (hp : p.length ≤ 9223372036854775807) : PC Try.prog 8 [iS p] [] 0 9 (fun t obs => t = .tup [iQ (parL p), iI (parE p)] ∧ obs = []) := by
  refine PC.body [2, 3] Try.func8 rfl (by rfl) (Nat.le_of_ble_eq_true (by rfl)) rfl ?_; simp only [enumA]
  ((repeat refine PWp.seq ?_); refine PWp.region TT (by rfl) (fun K hK => ?_); simp only [push_cast, seval, Nat.reduceEqDiff, Nat.reduceLeDiff, reduceCtorEq]; (repeat refine sk ?_); refine hK _ ?_; clear hK K)
  ((repeat refine PWp.seq ?_); refine PWp.region TT (by rfl) (fun K hK => ?_); simp only [push_cast, seval, Nat.reduceEqDiff, Nat.reduceLeDiff, reduceCtorEq]; (repeat refine sk ?_); refine hK _ ?_; clear hK K)
  ((repeat refine PWp.seq ?_); refine PWp.cond (by simp only [push_cast, seval, Nat.reduceEqDiff, Nat.reduceLeDiff, reduceCtorEq]; rfl) (fun hc => ?_) (fun hc => ?_))
  · have hl : p.length > 200 := by have := of_decide_eq_true hc; omega
    have e1 : parL p = [] := by unfold parL; rw [if_pos hl]
    have e2 : parE p = 4 := by unfold parE; rw [if_pos hl]
    ((repeat refine PWp.seq ?_); refine PWp.region TT (by rfl) (fun K hK => ?_); simp only [push_cast, seval, Nat.reduceEqDiff, Nat.reduceLeDiff, reduceCtorEq]; (repeat refine sk ?_); refine hK _ ?_; clear hK K)
    ((repeat refine PWp.seq ?_); refine PWp.ret ?_)
    refine ⟨.inr rfl, by omega, _, [], ?_, rfl, rfl⟩
    rw [e1, e2]
    (simp [push_cast, -List.getD_eq_getElem?_getD])
  · have hl : ¬ p.length > 200 := by have := of_decide_eq_false hc; omega
    have bad : parO p = none → parL p = [] ∧ parE p = 3 := fun h => ⟨by unfold parL; rw [if_neg hl, h]; rfl, by unfold parE; rw [if_neg hl, h]⟩
    clear hc
    ((repeat refine PWp.seq ?_); refine PWp.skip ?_)
    ((repeat refine PWp.seq ?_); refine PWp.region TT (by rfl) (fun K hK => ?_); simp only [push_cast, seval, Nat.reduceEqDiff, Nat.reduceLeDiff, reduceCtorEq]; (repeat refine sk ?_); refine hK _ ?_; clear hK K)
    ((repeat refine PWp.seq ?_); refine PWp.region TT (by rfl) (fun K hK => ?_); simp only [push_cast, seval, Nat.reduceEqDiff, Nat.reduceLeDiff, reduceCtorEq]; (repeat refine sk ?_); refine hK _ ?_; clear hK K)
    ((repeat refine PWp.seq ?_); refine PWp.block ?_)
    refine PWp.loop (fun c st => ∃ (i : Nat) (acc : List Pt), c = p.length - i ∧ i ≤ p.length ∧ acc.length ≤ i ∧ parO p = parM (p.drop i) acc ∧
      st = ⟨[(0, iS p), (4, .acc 0 2 (acc.map encQ)), (5, iI i)], [(0, .row 50 2)], 1⟩) _ _ ⟨0, [], rfl, Nat.zero_le _, Nat.zero_le _, rfl, rfl⟩ (Gh.le (by simp [push_cast, -List.getD_eq_getElem?_getD]) (by simp)) ?_
    rintro c st ⟨i, acc, rfl, hi, hal, hN, rfl⟩
    ((repeat refine PWp.seq ?_); refine PWp.region TT (by rfl) (fun K hK => ?_); simp only [push_cast, seval, Nat.reduceEqDiff, Nat.reduceLeDiff, reduceCtorEq]; (repeat refine sk ?_); refine hK _ ?_; clear hK K)
    ((repeat refine PWp.seq ?_); refine PWp.cond (by simp only [push_cast, seval, Nat.reduceEqDiff, Nat.reduceLeDiff, reduceCtorEq]; rfl) (fun hc => ?_) (fun hc => ?_))
    · have hlt : i < p.length := by have := of_decide_eq_true hc; omega
      clear hc
      rw [drop_getD hlt] at hN
      have hN' : parO p = parM (p.getD i 0 :: p.drop (i + 1)) acc := hN
      clear hN
      have hrl : (p.drop (i + 1)).length = p.length - (i + 1) := List.length_drop
      have hdr : ∀ n, (p.drop (i + 1)).drop n = p.drop (i + 1 + n) := fun n => List.drop_drop
      have t1 : ((i : Int) + 1).toNat = i + 1 := by omega
      have hx := (p.getD i 0).toNat_lt
      rw [parM_cons] at hN'
      ((repeat refine PWp.seq ?_); refine PWp.skip ?_)
      ((repeat refine PWp.seq ?_); refine PWp.block ?_)
      ((repeat refine PWp.seq ?_); refine PWp.region TT (by rfl) (fun K hK => ?_); simp only [push_cast, seval, Nat.reduceEqDiff, Nat.reduceLeDiff, reduceCtorEq]; (repeat refine sk ?_); refine hK _ ?_; clear hK K)
      ((repeat refine PWp.seq ?_); refine PWp.region TT (by rfl) (fun K hK => ?_); simp only [push_cast, seval, Nat.reduceEqDiff, Nat.reduceLeDiff, reduceCtorEq]; (repeat refine sk ?_); refine hK _ ?_; clear hK K)
      ((repeat refine PWp.seq ?_); refine PWp.cond (by simp only [push_cast, seval, Nat.reduceEqDiff, Nat.reduceLeDiff, reduceCtorEq]; rfl) (fun hc => ?_) (fun hc => ?_))
      · have hx1 := u8t (c := 42) hc
        clear hc
        rw [if_pos hx1] at hN'
        have hen := encQ_any
        ((repeat refine PWp.seq ?_); refine PWp.region TT (by rfl) (fun K hK => ?_); simp only [push_cast, seval, Nat.reduceEqDiff, Nat.reduceLeDiff, reduceCtorEq]; (repeat refine sk ?_); refine hK _ ?_; clear hK K)
        ((repeat refine PWp.seq ?_); refine PWp.region TT (by rfl) (fun K hK => ?_); simp only [push_cast, seval, Nat.reduceEqDiff, Nat.reduceLeDiff, reduceCtorEq, wrap64_id (n := (i : Int) + 1) (by omega) (by omega)]; (repeat refine sk ?_); refine hK _ ?_; clear hK K)
        refine ⟨_, _, ?_, ⟨i + 1, acc ++ [ptAny], rfl, by omega, by simp; omega, hN', rfl⟩, Gh.le (by simp [push_cast, -List.getD_eq_getElem?_getD, hen]) (by simp)⟩
        omega
      · have hx1 := u8f (c := 42) hc
        clear hc
        rw [if_neg hx1] at hN'
        ((repeat refine PWp.seq ?_); refine PWp.region TT (by rfl) (fun K hK => ?_); simp only [push_cast, seval, Nat.reduceEqDiff, Nat.reduceLeDiff, reduceCtorEq]; (repeat refine sk ?_); refine hK _ ?_; clear hK K)
        ((repeat refine PWp.seq ?_); refine PWp.cond (by simp only [push_cast, seval, Nat.reduceEqDiff, Nat.reduceLeDiff, reduceCtorEq]; rfl) (fun hc => ?_) (fun hc => ?_))
        · have hx2 := u8t (c := 63) hc
          clear hc
          rw [if_pos hx2] at hN'
          have hen := encQ_all
          ((repeat refine PWp.seq ?_); refine PWp.region TT (by rfl) (fun K hK => ?_); simp only [push_cast, seval, Nat.reduceEqDiff, Nat.reduceLeDiff, reduceCtorEq])
          ((repeat refine sk ?_); refine PCall.use (ref_all) [] rfl (by simp [push_cast]) (by simp) (by simp [push_cast]) (by simp [push_cast]) (by simp [push_cast]) (by simp [push_cast]) ?_)
          rintro _ _ ⟨rfl, rfl⟩
          (simp only [push_cast, seval, Nat.reduceEqDiff, Nat.reduceLeDiff, reduceCtorEq]; (repeat refine sk ?_); refine hK _ ?_; clear hK K)
          ((repeat refine PWp.seq ?_); refine PWp.region TT (by rfl) (fun K hK => ?_); simp only [push_cast, seval, Nat.reduceEqDiff, Nat.reduceLeDiff, reduceCtorEq, wrap64_id (n := (i : Int) + 1) (by omega) (by omega)]; (repeat refine sk ?_); refine hK _ ?_; clear hK K)
          refine ⟨_, _, ?_, ⟨i + 1, acc ++ [ptAll], rfl, by omega, by simp; omega, hN', rfl⟩, Gh.le (by simp [push_cast, -List.getD_eq_getElem?_getD, hen]) (by simp)⟩
          omega
        · have hx2 := u8f (c := 63) hc
          clear hc
          rw [if_neg hx2] at hN'
          ((repeat refine PWp.seq ?_); refine PWp.region TT (by rfl) (fun K hK => ?_); simp only [push_cast, seval, Nat.reduceEqDiff, Nat.reduceLeDiff, reduceCtorEq]; (repeat refine sk ?_); refine hK _ ?_; clear hK K)
          ((repeat refine PWp.seq ?_); refine PWp.cond (by simp only [push_cast, seval, Nat.reduceEqDiff, Nat.reduceLeDiff, reduceCtorEq]; rfl) (fun hc => ?_) (fun hc => ?_))
          · have hx3 := u8t (c := 92) hc
            clear hc
            rw [if_pos hx3] at hN'
            ((repeat refine PWp.seq ?_); refine PWp.region TT (by rfl) (fun K hK => ?_); simp only [push_cast, seval, Nat.reduceEqDiff, Nat.reduceLeDiff, reduceCtorEq, wrap64_id (n := (i : Int) + 1) (by omega) (by omega)]; (repeat refine sk ?_); refine hK _ ?_; clear hK K)
            ((repeat refine PWp.seq ?_); refine PWp.region TT (by rfl) (fun K hK => ?_); simp only [push_cast, seval, Nat.reduceEqDiff, Nat.reduceLeDiff, reduceCtorEq]; (repeat refine sk ?_); refine hK _ ?_; clear hK K)
            ((repeat refine PWp.seq ?_); refine PWp.cond (by simp only [push_cast, seval, Nat.reduceEqDiff, Nat.reduceLeDiff, reduceCtorEq]; rfl) (fun hc => ?_) (fun hc => ?_))
            · have hil : i + 1 = p.length := by have := of_decide_eq_true hc; omega
              have hd0 : p.drop (i + 1) = [] := List.drop_eq_nil_of_le (by omega)
              rw [hd0] at hN'
              obtain ⟨b1, b2⟩ := bad hN'
              ((repeat refine PWp.seq ?_); refine PWp.region TT (by rfl) (fun K hK => ?_); simp only [push_cast, seval, Nat.reduceEqDiff, Nat.reduceLeDiff, reduceCtorEq]; (repeat refine sk ?_); refine hK _ ?_; clear hK K)
              ((repeat refine PWp.seq ?_); refine PWp.ret ?_)
              refine ⟨.inr rfl, by omega, _, [], ?_, rfl, rfl⟩
              rw [b1, b2]
              (simp [push_cast, -List.getD_eq_getElem?_getD])
            · have hil : i + 1 < p.length := by
                have := of_decide_eq_false hc
                omega
              clear hc
              rw [drop_getD hil] at hN'
              have hN2 : parO p = parM (p.drop (i + 1 + 1)) (acc ++ [ptOne (p.getD (i + 1) 0)]) := hN'
              have hx4 := (p.getD (i + 1) 0).toNat_lt
              have hen := encQ_byte (p.getD (i + 1) 0)
              ((repeat refine PWp.seq ?_); refine PWp.skip ?_)
              ((repeat refine PWp.seq ?_); refine PWp.region TT (by rfl) (fun K hK => ?_); simp only [push_cast, seval, Nat.reduceEqDiff, Nat.reduceLeDiff, reduceCtorEq, t1]; (repeat refine sk ?_); refine hK _ ?_; clear hK K)
              ((repeat refine PWp.seq ?_); refine PWp.region TT (by rfl) (fun K hK => ?_); simp only [push_cast, seval, Nat.reduceEqDiff, Nat.reduceLeDiff, reduceCtorEq, wrap64_id (n := (i : Int) + 1 + 1) (by omega) (by omega)]; (repeat refine sk ?_); refine hK _ ?_; clear hK K)
              refine ⟨_, _, ?_, ⟨i + 1 + 1, acc ++ [ptOne (p.getD (i + 1) 0)], rfl, by omega, by simp; omega, hN2, rfl⟩, Gh.le (by simp [push_cast, -List.getD_eq_getElem?_getD, hen]) (by simp)⟩
              omega
          · have hx3 := u8f (c := 92) hc
            clear hc
            rw [if_neg hx3] at hN'
            ((repeat refine PWp.seq ?_); refine PWp.region TT (by rfl) (fun K hK => ?_); simp only [push_cast, seval, Nat.reduceEqDiff, Nat.reduceLeDiff, reduceCtorEq]; (repeat refine sk ?_); refine hK _ ?_; clear hK K)
            ((repeat refine PWp.seq ?_); refine PWp.cond (by simp only [push_cast, seval, Nat.reduceEqDiff, Nat.reduceLeDiff, reduceCtorEq]; rfl) (fun hc => ?_) (fun hc => ?_))
            · have hx4 := u8t (c := 91) hc
              clear hc
              rw [if_pos hx4] at hN'
              ((repeat refine PWp.seq ?_); refine PWp.region TT (by rfl) (fun K hK => ?_); simp only [push_cast, seval, Nat.reduceEqDiff, Nat.reduceLeDiff, reduceCtorEq, wrap64_id (n := (i : Int) + 1) (by omega) (by omega)]; (repeat refine sk ?_); refine hK _ ?_; clear hK K)
              ((repeat refine PWp.seq ?_); refine PWp.block ?_)
              have ga : ∀ k, (p.drop (i + 1)).getD k 0 = p.getD (i + 1 + k) 0 := fun k => by simp [List.getD]
              refine PWp.loop (fun c st => ∃ (k : Nat), c = p.length - (i + 1) - k ∧ k ≤ p.length - (i + 1) ∧ (∀ j, j < k → (p.drop (i + 1)).getD j 0 ≠ 93) ∧
                st = ⟨[(0, iS p), (4, .acc 0 2 (acc.map encQ)), (5, iI i), (7, iI ((i : Int) + 1 + k))], [(0, .row 50 2)], 1⟩) _ _ ⟨0, rfl, Nat.zero_le _, fun j h => absurd h (Nat.not_lt_zero _), rfl⟩ (Gh.le (by simp [push_cast, -List.getD_eq_getElem?_getD]) (by simp)) ?_
              rintro c st ⟨k, rfl, hk, hsc, rfl⟩
              have t3 : ((i : Int) + 1 + k).toNat = i + 1 + k := by omega
              obtain ⟨q1, q2⟩ := index_scan (p.drop (i + 1)) 93 k hsc (by omega)
              by_cases hkl : i + 1 + k < p.length
              · have hd : decide ((i : Int) + 1 + k < (p.length : Int)) = true := decide_eq_true (by omega)
                have hdg : decide ((i : Int) + 1 + k ≥ (p.length : Int)) = false := decide_eq_false (by omega)
                ((repeat refine PWp.seq ?_); refine PWp.region TT (by rfl) (fun K hK => ?_); simp only [push_cast, seval, Nat.reduceEqDiff, Nat.reduceLeDiff, reduceCtorEq, hd, t3]; (repeat refine sk ?_); refine hK _ ?_; clear hK K)
                ((repeat refine PWp.seq ?_); refine PWp.cond (by simp only [push_cast, seval, Nat.reduceEqDiff, Nat.reduceLeDiff, reduceCtorEq]; rfl) (fun hc => ?_) (fun hc => ?_))
                · have hne : p.getD (i + 1 + k) 0 ≠ 93 := fun e => by rw [e] at hc; simp at hc
                  clear hc
                  ((repeat refine PWp.seq ?_); refine PWp.skip ?_)
                  ((repeat refine PWp.seq ?_); refine PWp.block ?_)
                  ((repeat refine PWp.seq ?_); refine PWp.region TT (by rfl) (fun K hK => ?_); simp only [push_cast, seval, Nat.reduceEqDiff, Nat.reduceLeDiff, reduceCtorEq, wrap64_id (n := (i : Int) + 1 + k + 1) (by omega) (by omega)]; (repeat refine sk ?_); refine hK _ ?_; clear hK K)
                  refine ⟨_, _, ?_, ⟨k + 1, rfl, by omega, fun j hj => ?_, rfl⟩, Gh.le (by simp [push_cast, -List.getD_eq_getElem?_getD, show (i : Int) + 1 + k + 1 = (i : Int) + 1 + (k + 1) by omega]) (by simp)⟩
                  · omega
                  · by_cases e : j = k
                    · subst e
                      rw [ga]
                      exact hne
                    · exact hsc j (by omega)
                · have he : p.getD (i + 1 + k) 0 = 93 := by
                    apply Classical.byContradiction
                    intro hne
                    have := bne_eq_false_iff_eq.1 hc
                    exact hne (UInt8.toNat_inj.1 (by show _ = 93; omega))
                  clear hc
                  have hix := q2 (by omega) (by rw [ga]; exact he)
                  rw [hix] at hN'
                  simp only [Int.toNat_natCast] at hN'
                  have hsl : (p.take (i + 1 + k)).drop (i + 1) = (p.drop (i + 1)).take k := by rw [List.drop_take, show i + 1 + k - (i + 1) = k by omega]
                  have htl : ((p.drop (i + 1)).take k).length = k := by rw [List.length_take, hrl]; omega
                  (repeat refine PWp.seq ?_); refine PWp.exit (iteT rfl ?_)
                  have w1 := wrap64_id (n := (i : Int) + 1) (by omega) (by omega)
                  have w2 := wrap64_id (n := (i : Int) + 2) (by omega) (by omega)
                  have good : ∀ (hok : ¬ ((k : Int) < 0 ∨ (p.drop (i + 1)).take k = [] ∨ (p.drop (i + 1)).take k = [33])), parO p = parM (p.drop (i + 1 + (k + 1))) (acc ++ [ptSet ((p.drop (i + 1)).take k)]) := fun hok => by rw [if_neg hok, hdr] at hN'; exact hN'
                  have hen := encQ_set ((p.drop (i + 1)).take k)
                  have hcll : ((p.drop (i + 1)).take k).length ≤ 100000 := by omega
                  have hv : (i : Int) + 1 + k + 1 = ((i + 1 + (k + 1) : Nat) : Int) := by omega
                  by_cases hk0 : k = 0
                  · have hde : (((i : Int) + 1 + k) == ((i : Int) + 1)) = true := beq_iff_eq.2 (by omega)
                    rw [if_pos (.inr (.inl (by rw [hk0]; rfl)))] at hN'
                    obtain ⟨b1, b2⟩ := bad hN'
                    ((repeat refine PWp.seq ?_); refine PWp.region TT (by rfl) (fun K hK => ?_); simp only [push_cast, seval, Nat.reduceEqDiff, Nat.reduceLeDiff, reduceCtorEq, hdg, hde, w1]; (repeat refine sk ?_); refine hK _ ?_; clear hK K)
                    ((repeat refine PWp.seq ?_); refine PWp.cond (by simp only [push_cast, seval, Nat.reduceEqDiff, Nat.reduceLeDiff, reduceCtorEq]; rfl) (fun hc => ?_) (fun hc => ?_))
                    · ((repeat refine PWp.seq ?_); refine PWp.region TT (by rfl) (fun K hK => ?_); simp only [push_cast, seval, Nat.reduceEqDiff, Nat.reduceLeDiff, reduceCtorEq]; (repeat refine sk ?_); refine hK _ ?_; clear hK K)
                      ((repeat refine PWp.seq ?_); refine PWp.ret ?_)
                      refine ⟨.inr rfl, by omega, _, [], ?_, rfl, rfl⟩
                      rw [b1, b2]
                      (simp [push_cast, -List.getD_eq_getElem?_getD])
                    · cases hc
                  · have hde : (((i : Int) + 1 + k) == ((i : Int) + 1)) = false := beq_eq_false_iff_ne.2 (by omega)
                    by_cases hk1 : k = 1
                    · have hd2 : (((i : Int) + 1 + k) == ((i : Int) + 2)) = true := beq_iff_eq.2 (by omega)
                      have htk : (p.drop (i + 1)).take k = [p.getD (i + 1) 0] := by
                        rw [hk1, drop_getD (by omega : i + 1 < p.length)]
                        rfl
                      ((repeat refine PWp.seq ?_); refine PWp.region TT (by rfl) (fun K hK => ?_); simp only [push_cast, seval, Nat.reduceEqDiff, Nat.reduceLeDiff, reduceCtorEq, hdg, hde, hd2, t1, w1, w2]; (repeat refine sk ?_); refine hK _ ?_; clear hK K)
                      ((repeat refine PWp.seq ?_); refine PWp.cond (by simp only [push_cast, seval, Nat.reduceEqDiff, Nat.reduceLeDiff, reduceCtorEq]; rfl) (fun hc => ?_) (fun hc => ?_))
                      · have h33 := u8t (c := 33) hc
                        rw [if_pos (.inr (.inr (by rw [htk, h33])))] at hN'
                        obtain ⟨b1, b2⟩ := bad hN'
                        ((repeat refine PWp.seq ?_); refine PWp.region TT (by rfl) (fun K hK => ?_); simp only [push_cast, seval, Nat.reduceEqDiff, Nat.reduceLeDiff, reduceCtorEq]; (repeat refine sk ?_); refine hK _ ?_; clear hK K)
                        ((repeat refine PWp.seq ?_); refine PWp.ret ?_)
                        refine ⟨.inr rfl, by omega, _, [], ?_, rfl, rfl⟩
                        rw [b1, b2]
                        (simp [push_cast, -List.getD_eq_getElem?_getD])
                      · have h33 := u8f (c := 33) hc
                        clear hc
                        have hN2 := good (by
                          rintro (h | h | h)
                          · omega
                          · rw [htk] at h; cases h
                          · rw [htk] at h; injection h with h1 _; exact h33 h1)
                        clear htk h33 hd2 hde hdg hd hix he good hk1 hk0 q1 q2 hsc
                        ((repeat refine PWp.seq ?_); refine PWp.skip ?_)
                        ((repeat refine PWp.seq ?_); refine PWp.region TT (by rfl) (fun K hK => ?_); simp only [push_cast, seval, Nat.reduceEqDiff, Nat.reduceLeDiff, reduceCtorEq, t1, t3, hsl, w1])
                        ((repeat refine sk ?_); refine PCall.use (ref_within ((p.drop (i + 1)).take k) hcll) [] rfl (by simp [push_cast]) (by simp) (by simp [push_cast]) (by simp [push_cast]) (by simp [push_cast]) (by simp [push_cast]) ?_)
                        rintro _ _ ⟨rfl, rfl⟩
                        (simp only [push_cast, seval, Nat.reduceEqDiff, Nat.reduceLeDiff, reduceCtorEq]; (repeat refine sk ?_); refine hK _ ?_; clear hK K)
                        ((repeat refine PWp.seq ?_); refine PWp.region TT (by rfl) (fun K hK => ?_); simp only [push_cast, seval, Nat.reduceEqDiff, Nat.reduceLeDiff, reduceCtorEq]; (repeat refine sk ?_); refine hK _ ?_; clear hK K)
                        ((repeat refine PWp.seq ?_); refine PWp.region TT (by rfl) (fun K hK => ?_); simp only [push_cast, seval, Nat.reduceEqDiff, Nat.reduceLeDiff, reduceCtorEq, wrap64_id (n := (i : Int) + 1 + k + 1) (by omega) (by omega)]; (repeat refine sk ?_); refine hK _ ?_; clear hK K)
                        rw [hv]
                        refine ⟨_, _, ?_, ⟨i + 1 + (k + 1), acc ++ [ptSet ((p.drop (i + 1)).take k)], rfl, by omega, by simp; omega, hN2, rfl⟩, Gh.le (by simp [push_cast, -List.getD_eq_getElem?_getD, hen]) (by simp)⟩
                        omega
                    · have hd2 : (((i : Int) + 1 + k) == ((i : Int) + 2)) = false := beq_eq_false_iff_ne.2 (by omega)
                      have hN2 := good (by
                        rintro (h | h | h)
                        · omega
                        · rw [h] at htl; simp at htl; omega
                        · rw [h] at htl; simp at htl; omega)
                      ((repeat refine PWp.seq ?_); refine PWp.region TT (by rfl) (fun K hK => ?_); simp only [push_cast, seval, Nat.reduceEqDiff, Nat.reduceLeDiff, reduceCtorEq, hdg, hde, hd2, t1, w1, w2]; (repeat refine sk ?_); refine hK _ ?_; clear hK K)
                      ((repeat refine PWp.seq ?_); refine PWp.cond (by simp only [push_cast, seval, Nat.reduceEqDiff, Nat.reduceLeDiff, reduceCtorEq]; rfl) (fun hc => ?_) (fun hc => ?_))
                      · cases hc
                      · clear hc
                        ((repeat refine PWp.seq ?_); refine PWp.skip ?_)
                        ((repeat refine PWp.seq ?_); refine PWp.region TT (by rfl) (fun K hK => ?_); simp only [push_cast, seval, Nat.reduceEqDiff, Nat.reduceLeDiff, reduceCtorEq, t1, t3, hsl, w1])
                        ((repeat refine sk ?_); refine PCall.use (ref_within ((p.drop (i + 1)).take k) hcll) [] rfl (by simp [push_cast]) (by simp) (by simp [push_cast]) (by simp [push_cast]) (by simp [push_cast]) (by simp [push_cast]) ?_)
                        rintro _ _ ⟨rfl, rfl⟩
                        (simp only [push_cast, seval, Nat.reduceEqDiff, Nat.reduceLeDiff, reduceCtorEq]; (repeat refine sk ?_); refine hK _ ?_; clear hK K)
                        ((repeat refine PWp.seq ?_); refine PWp.region TT (by rfl) (fun K hK => ?_); simp only [push_cast, seval, Nat.reduceEqDiff, Nat.reduceLeDiff, reduceCtorEq]; (repeat refine sk ?_); refine hK _ ?_; clear hK K)
                        ((repeat refine PWp.seq ?_); refine PWp.region TT (by rfl) (fun K hK => ?_); simp only [push_cast, seval, Nat.reduceEqDiff, Nat.reduceLeDiff, reduceCtorEq, wrap64_id (n := (i : Int) + 1 + k + 1) (by omega) (by omega)]; (repeat refine sk ?_); refine hK _ ?_; clear hK K)
                        rw [hv]
                        refine ⟨_, _, ?_, ⟨i + 1 + (k + 1), acc ++ [ptSet ((p.drop (i + 1)).take k)], rfl, by omega, by simp; omega, hN2, rfl⟩, Gh.le (by simp [push_cast, -List.getD_eq_getElem?_getD, hen]) (by simp)⟩
                        omega
              · have hd : decide ((i : Int) + 1 + k < (p.length : Int)) = false := decide_eq_false (by omega)
                have hdg : decide ((i : Int) + 1 + k ≥ (p.length : Int)) = true := decide_eq_true (by omega)
                rw [q1 (by omega), if_pos (.inl (by decide))] at hN'
                obtain ⟨b1, b2⟩ := bad hN'
                ((repeat refine PWp.seq ?_); refine PWp.region TT (by rfl) (fun K hK => ?_); simp only [push_cast, seval, Nat.reduceEqDiff, Nat.reduceLeDiff, reduceCtorEq, hd, t3]; (repeat refine sk ?_); refine hK _ ?_; clear hK K)
                ((repeat refine PWp.seq ?_); refine PWp.cond (by simp only [push_cast, seval, Nat.reduceEqDiff, Nat.reduceLeDiff, reduceCtorEq]; rfl) (fun hc => ?_) (fun hc => ?_))
                · cases hc
                · (repeat refine PWp.seq ?_); refine PWp.exit (iteT rfl ?_)
                  ((repeat refine PWp.seq ?_); refine PWp.region TT (by rfl) (fun K hK => ?_); simp only [push_cast, seval, Nat.reduceEqDiff, Nat.reduceLeDiff, reduceCtorEq, hdg]; (repeat refine sk ?_); refine hK _ ?_; clear hK K)
                  ((repeat refine PWp.seq ?_); refine PWp.cond (by simp only [push_cast, seval, Nat.reduceEqDiff, Nat.reduceLeDiff, reduceCtorEq]; rfl) (fun hc => ?_) (fun hc => ?_))
                  · ((repeat refine PWp.seq ?_); refine PWp.region TT (by rfl) (fun K hK => ?_); simp only [push_cast, seval, Nat.reduceEqDiff, Nat.reduceLeDiff, reduceCtorEq]; (repeat refine sk ?_); refine hK _ ?_; clear hK K)
                    ((repeat refine PWp.seq ?_); refine PWp.ret ?_)
                    refine ⟨.inr rfl, by omega, _, [], ?_, rfl, rfl⟩
                    rw [b1, b2]
                    (simp [push_cast, -List.getD_eq_getElem?_getD])
                  · cases hc
            · have hx4 := u8f (c := 91) hc
              clear hc
              rw [if_neg hx4] at hN'
              have hen := encQ_byte (p.getD i 0)
              ((repeat refine PWp.seq ?_); refine PWp.region TT (by rfl) (fun K hK => ?_); simp only [push_cast, seval, Nat.reduceEqDiff, Nat.reduceLeDiff, reduceCtorEq]; (repeat refine sk ?_); refine hK _ ?_; clear hK K)
              ((repeat refine PWp.seq ?_); refine PWp.region TT (by rfl) (fun K hK => ?_); simp only [push_cast, seval, Nat.reduceEqDiff, Nat.reduceLeDiff, reduceCtorEq, wrap64_id (n := (i : Int) + 1) (by omega) (by omega)]; (repeat refine sk ?_); refine hK _ ?_; clear hK K)
              refine ⟨_, _, ?_, ⟨i + 1, acc ++ [ptOne (p.getD i 0)], rfl, by omega, by simp; omega, hN', rfl⟩, Gh.le (by simp [push_cast, -List.getD_eq_getElem?_getD, hen]) (by simp)⟩
              omega
    · have hil : i = p.length := by have := of_decide_eq_false hc; omega
      subst hil
      clear hc
      have hN' : parO p = some acc := by
        rw [hN, List.drop_length]
        rfl
      clear hN
      have b1 : parL p = acc := by unfold parL; rw [if_neg hl, hN']; rfl
      have b2 : parE p = 0 := by unfold parE; rw [if_neg hl, hN']
      (repeat refine PWp.seq ?_); refine PWp.exit (iteT rfl ?_)
      ((repeat refine PWp.seq ?_); refine PWp.region TT (by rfl) (fun K hK => ?_); simp only [push_cast, seval, Nat.reduceEqDiff, Nat.reduceLeDiff, reduceCtorEq]; (repeat refine sk ?_); refine hK _ ?_; clear hK K)
      ((repeat refine PWp.seq ?_); refine PWp.ret ?_)
      refine ⟨.inr rfl, by omega, _, [], ?_, rfl, rfl⟩
      rw [b1, b2]
      (simp [push_cast, -List.getD_eq_getElem?_getD])
end Go.Proofs.Ytjlnialglahdoaa
