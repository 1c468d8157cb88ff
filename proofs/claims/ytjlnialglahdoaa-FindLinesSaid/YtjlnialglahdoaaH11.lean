/- The document's answer: fits, Fits, Span. -/
import Derived.Test.YtjlnialglahdoaaH10
namespace Go.Proofs.Ytjlnialglahdoaa
open Go.PL
set_option maxRecDepth 100000
set_option linter.unusedSimpArgs false
set_option linter.unusedVariables false
theorem encQ_one (p : Pt) : (encQ p).one ∧ (encQ p).cells.length = 2 := ⟨trivial, rfl⟩
theorem atP_any (p : Pt) : (atP p).any = decide (p.k = 0) := by
  unfold atP
  by_cases h0 : p.k = 0
  · rw [if_pos h0, decide_eq_true h0]
  · rw [if_neg h0, decide_eq_false h0]
    split
    · rfl
    · split <;> rfl
theorem atP_set (p : Pt) (c : UInt8) (h0 : p.k ≠ 0) : (atP p).set c.toNat = decide (c.toNat ∈ qB p) := by
  have hc := c.toNat_lt
  unfold atP qB
  rw [if_neg h0, if_neg h0]
  by_cases h1 : p.k = 1
  · rw [if_pos h1, if_pos h1]
    show decide (c.toNat < 256) = _
    rw [Bool.eq_iff_iff, decide_eq_true_eq, decide_eq_true_eq, List.mem_range]
  · rw [if_neg h1, if_neg h1]
    by_cases h2 : p.k = 2
    · rw [if_pos h2, if_pos h2]
      show (if c.toNat = p.c.toNat then true else false) = _
      by_cases e : c.toNat = p.c.toNat
      · rw [if_pos e, e]; simp
      · rw [if_neg e]; simp [e]
    · rw [if_neg h2, if_neg h2]
      unfold wiF
      rw [Bool.eq_iff_iff, decide_eq_true_eq, List.mem_filter, List.mem_range]
      exact ⟨fun h => ⟨hc, h⟩, fun h => h.2⟩
theorem qB_len (p : Pt) : (qB p).length ≤ 256 := by
  unfold qB
  split
  · simp
  · split
    · simp
    · split
      · simp
      · exact wi_len _ _
def rowM (l : List At) (s : List UInt8) : List Bool := (List.range (s.length + 1)).map fun j => mt l (s.drop j)
def nowM (a : At) (l : List At) (s : List UInt8) (n : Nat) : List Bool := (List.range (s.length + 1)).map fun k => if n ≤ k then mt (a :: l) (s.drop k) else false
theorem rowM_len (l : List At) (s : List UInt8) : (rowM l s).length = s.length + 1 := by unfold rowM; rw [List.length_map, List.length_range]
theorem nowM_len (a : At) (l : List At) (s : List UInt8) (n : Nat) : (nowM a l s n).length = s.length + 1 := by unfold nowM; rw [List.length_map, List.length_range]
theorem rowM_get (l : List At) (s : List UInt8) {j : Nat} (h : j ≤ s.length) : (rowM l s).getD j default = mt l (s.drop j) := by
  unfold rowM
  rw [List.getD_eq_getElem?_getD, List.getElem?_map, List.getElem?_range (by omega)]
  rfl
theorem nowM_get (a : At) (l : List At) (s : List UInt8) {j n : Nat} (h : j ≤ s.length) (hn : n ≤ j) : (nowM a l s n).getD j default = mt (a :: l) (s.drop j) := by
  unfold nowM
  rw [List.getD_eq_getElem?_getD, List.getElem?_map, List.getElem?_range (by omega)]
  simp [hn]
theorem nowM_zero (a : At) (l : List At) (s : List UInt8) : nowM a l s 0 = rowM (a :: l) s := by
  unfold nowM rowM
  exact List.map_congr_left fun k _ => by rw [if_pos (Nat.zero_le _)]
theorem nowM_top (a : At) (l : List At) (s : List UInt8) : nowM a l s (s.length + 1) = List.replicate (s.length + 1) false := by
  unfold nowM
  rw [List.eq_replicate_iff]
  refine ⟨by rw [List.length_map, List.length_range], fun b hb => ?_⟩
  obtain ⟨k, hk, rfl⟩ := List.mem_map.1 hb
  rw [List.mem_range] at hk
  rw [if_neg (by omega)]
theorem nowM_set (a : At) (l : List At) (s : List UInt8) {j : Nat} (h : j ≤ s.length) {b : Bool} (hb : mt (a :: l) (s.drop j) = b) : (nowM a l s (j + 1)).set j b = nowM a l s j := by
  unfold nowM
  apply List.ext_getElem
  · simp
  · intro i h1 h2
    rw [List.getElem_set]
    simp only [List.getElem_map, List.getElem_range]
    by_cases e : j = i
    · subst e; rw [if_pos rfl, if_pos (Nat.le_refl _), hb]
    · rw [if_neg e]
      by_cases e2 : j + 1 ≤ i
      · rw [if_pos e2, if_pos (by omega)]
      · rw [if_neg e2, if_neg (by omega)]
theorem rowM_nil (s : List UInt8) : (List.replicate (s.length + 1) false).set s.length true = rowM [] s := by
  unfold rowM
  apply List.ext_getElem
  · simp
  · intro i h1 h2
    rw [List.length_map, List.length_range] at h2
    rw [List.getElem_set]
    simp only [List.getElem_map, List.getElem_range, List.getElem_replicate]
    show _ = (s.drop i).isEmpty
    by_cases e : s.length = i
    · subst e; rw [if_pos rfl, List.drop_length]; rfl
    · rw [if_neg e]
      have : (s.drop i).length ≠ 0 := by rw [List.length_drop]; omega
      cases hd : s.drop i with
      | nil => rw [hd] at this; exact absurd rfl this
      | cons => rfl
theorem encB_set2 (v : List Bool) (k : Nat) (b : Bool) : (v.map encB).set k (.lit (.bool b)) = (v.set k b).map encB := encB_set v k b
set_option maxHeartbeats 4000000 in
theorem ref_fits (l : List Pt) (s : List UInt8) (hl : l.length ≤ 1000000) (hs : s.length ≤ 1000000) : PC Try.prog 29 [iQ l, iS s] [] 0 9 (fun t obs => t = iB (mt (l.map atP) s) ∧ obs = []) := by
  refine PC.body [4] Try.func29 rfl (by rfl) (Nat.le_of_ble_eq_true (by rfl)) rfl ?_; simp only [enumA]
  ((repeat refine PWp.seq ?_); refine PWp.region TT (by rfl) (fun K hK => ?_); simp only [push_cast, seval, Nat.reduceEqDiff, Nat.reduceLeDiff, reduceCtorEq]; (repeat refine sk ?_); refine hK _ ?_; clear hK K)
  ((repeat refine PWp.seq ?_); refine PWp.region TT (by rfl) (fun K hK => ?_); simp only [push_cast, seval, Nat.reduceEqDiff, Nat.reduceLeDiff, reduceCtorEq, wrap64_id (n := (s.length : Int) + 1) (by omega) (by omega), encB_rep]; (repeat refine sk ?_); refine hK _ ?_; clear hK K)
  have t1 : ((s.length : Int) + 1).toNat = s.length + 1 := by omega
  have hg0 : ((List.replicate (s.length + 1) false).map encB).getD s.length .any = .lit (.bool ((List.replicate (s.length + 1) false).getD s.length default)) := getD_map (by rw [List.length_replicate]; omega)
  have hr0 := rowM_nil s
  ((repeat refine PWp.seq ?_); refine PWp.region TT (by rfl) (fun K hK => ?_); simp only [push_cast, seval, Nat.reduceEqDiff, Nat.reduceLeDiff, reduceCtorEq, encB_set, t1, hg0, hr0]; (repeat refine sk ?_); refine hK _ ?_; clear hK K)
  refine PWp.gh (Gh.freeze 0 (by rfl)) ?_
  ((repeat refine PWp.seq ?_); refine PWp.region TT (by rfl) (fun K hK => ?_); simp only [push_cast, seval, Nat.reduceEqDiff, Nat.reduceLeDiff, reduceCtorEq, wrap64_id (n := (l.length : Int) - 1) (by omega) (by omega)]; (repeat refine sk ?_); refine hK _ ?_; clear hK K)
  ((repeat refine PWp.seq ?_); refine PWp.block ?_)
  refine PWp.loop (fun d st => ∃ i : Int, d = (i + 1).toNat ∧ -1 ≤ i ∧ i < l.length ∧
    st = ⟨[(0, iQ l), (1, iS s), (5, iV (rowM ((l.drop (i + 1).toNat).map atP) s)), (6, iI i)], [], 0⟩) _ _ ⟨(l.length : Int) - 1, rfl, by omega, by omega, rfl⟩ (Gh.le (by simp [push_cast, -List.getD_eq_getElem?_getD, show ((l.length : Int) - 1 + 1).toNat = l.length by omega, List.drop_length]) (by simp)) ?_
  rintro d st ⟨i, rfl, hi0, hi1, rfl⟩
  ((repeat refine PWp.seq ?_); refine PWp.region TT (by rfl) (fun K hK => ?_); simp only [push_cast, seval, Nat.reduceEqDiff, Nat.reduceLeDiff, reduceCtorEq]; (repeat refine sk ?_); refine hK _ ?_; clear hK K)
  ((repeat refine PWp.seq ?_); refine PWp.cond (by simp only [push_cast, seval, Nat.reduceEqDiff, Nat.reduceLeDiff, reduceCtorEq]; rfl) (fun hc => ?_) (fun hc => ?_))
  · have hi2 : 0 ≤ i := by have := of_decide_eq_true hc; omega
    clear hc
    obtain ⟨k, rfl⟩ : ∃ k : Nat, i = k := ⟨i.toNat, by omega⟩
    have hkl : k < l.length := by omega
    have e1 : ((k : Int) + 1).toNat = k + 1 := by omega
    rw [e1]
    have hdc : (l.drop k).map atP = atP (l.getD k default) :: (l.drop (k + 1)).map atP := by rw [drop_getD hkl, List.map_cons]
    have hg : (l.map encQ).getD k .any = encQ (l.getD k default) := getD_map hkl
    generalize l.getD k default = p at *
    generalize (l.drop (k + 1)).map atP = L at *
    ((repeat refine PWp.seq ?_); refine PWp.skip ?_)
    ((repeat refine PWp.seq ?_); refine PWp.block ?_)
    ((repeat refine PWp.seq ?_); refine PWp.region TT (by rfl) (fun K hK => ?_); simp only [push_cast, seval, Nat.reduceEqDiff, Nat.reduceLeDiff, reduceCtorEq, wrap64_id (n := (s.length : Int) + 1) (by omega) (by omega), encB_rep, t1]; (repeat refine sk ?_); refine hK _ ?_; clear hK K)
    ((repeat refine PWp.seq ?_); refine PWp.region TT (by rfl) (fun K hK => ?_); simp only [push_cast, seval, Nat.reduceEqDiff, Nat.reduceLeDiff, reduceCtorEq]; (repeat refine sk ?_); refine hK _ ?_; clear hK K)
    have htop := nowM_top (atP p) L s
    rw [← htop]
    ((repeat refine PWp.seq ?_); refine PWp.block ?_)
    refine PWp.loop (fun d st => ∃ j : Int, d = (j + 1).toNat ∧ -1 ≤ j ∧ j ≤ s.length ∧
      st = ⟨[(0, iQ l), (1, iS s), (5, iV (rowM L s)), (6, iI k), (7, .mrow 0), (8, iI j)], [(0, .mrow 4 1 ((nowM (atP p) L s (j + 1).toNat).map encB))], 1⟩) _ _ ⟨(s.length : Int), rfl, by omega, by omega, rfl⟩ (Gh.le (by simp [push_cast, -List.getD_eq_getElem?_getD, t1]) (by simp)) ?_
    rintro d st ⟨j, rfl, hj0, hj1, rfl⟩
    ((repeat refine PWp.seq ?_); refine PWp.region TT (by rfl) (fun K hK => ?_); simp only [push_cast, seval, Nat.reduceEqDiff, Nat.reduceLeDiff, reduceCtorEq]; (repeat refine sk ?_); refine hK _ ?_; clear hK K)
    ((repeat refine PWp.seq ?_); refine PWp.cond (by simp only [push_cast, seval, Nat.reduceEqDiff, Nat.reduceLeDiff, reduceCtorEq]; rfl) (fun hc => ?_) (fun hc => ?_))
    · have hj2 : 0 ≤ j := by have := of_decide_eq_true hc; omega
      clear hc
      obtain ⟨m, rfl⟩ : ∃ m : Nat, j = m := ⟨j.toNat, by omega⟩
      have hml : m ≤ s.length := by omega
      have e2 : ((m : Int) + 1).toNat = m + 1 := by omega
      have e3 : ((m : Int) - 1 + 1).toNat = m := by omega
      rw [e2]
      have hnl := nowM_len (atP p) L s (m + 1)
      have hrl := rowM_len L s
      have gn : ((nowM (atP p) L s (m + 1)).map encB).getD m .any = .lit (.bool ((nowM (atP p) L s (m + 1)).getD m default)) := getD_map (by omega)
      have gr : ((rowM L s).map encB).getD m .any = .lit (.bool (mt L (s.drop m))) := by rw [← rowM_get L s hml]; exact getD_map (by omega)
      have hany := atP_any p
      have hsn := fun b h => nowM_set (atP p) L s hml (b := b) h
      ((repeat refine PWp.seq ?_); refine PWp.skip ?_)
      ((repeat refine PWp.seq ?_); refine PWp.block ?_)
      cases ha : decide (p.k = 0) with
      | true =>
        rw [ha] at hany
        have hm := mt_any (l := L) hany
        ((repeat refine PWp.seq ?_); refine PWp.region TT (by rfl) (fun K hK => ?_); simp only [push_cast, seval, Nat.reduceEqDiff, Nat.reduceLeDiff, reduceCtorEq, hg, encQ, ha]; (repeat refine sk ?_); refine hK _ ?_; clear hK K)
        ((repeat refine PWp.seq ?_); refine PWp.cond (by simp only [push_cast, seval, Nat.reduceEqDiff, Nat.reduceLeDiff, reduceCtorEq]; rfl) (fun hc => ?_) (fun hc => ?_))
        · have hv : mt (atP p :: L) (s.drop m) = (mt L (s.drop m) || if m < s.length then mt (atP p :: L) (s.drop (m + 1)) else false) := by
            rw [hm]
            by_cases hlt : m < s.length
            · rw [if_pos hlt]
              conv => lhs; rw [drop_getD hlt]
              show (mt L _ || _) = _
              rw [← drop_getD hlt]
            · have hme : s.drop m = [] := List.drop_eq_nil_of_le (by omega)
              rw [if_neg hlt, Bool.or_false, hme]
              rfl
          have w1 := wrap64_id (n := (m : Int) + 1) (by omega) (by omega)
          by_cases hlt : m < s.length
          · have hd : decide ((m : Int) < (s.length : Int)) = true := decide_eq_true (by omega)
            have gn1 : ((nowM (atP p) L s (m + 1)).map encB).getD (m + 1) .any = .lit (.bool (mt (atP p :: L) (s.drop (m + 1)))) := by rw [← nowM_get (atP p) L s (j := m + 1) (n := m + 1) (by omega) (Nat.le_refl _)]; exact getD_map (by omega)
            rw [if_pos hlt] at hv
            cases hb1 : mt L (s.drop m) with
            | true =>
              rw [hb1, Bool.true_or] at hv
              have hset := hsn true hv
              ((repeat refine PWp.seq ?_); refine PWp.region TT (by rfl) (fun K hK => ?_); simp only [push_cast, seval, Nat.reduceEqDiff, Nat.reduceLeDiff, reduceCtorEq, gr, hb1, hd, e2, gn1, gn, encB_set, hset, w1]; (repeat refine sk ?_); refine hK _ ?_; clear hK K)
              ((repeat refine PWp.seq ?_); refine PWp.region TT (by rfl) (fun K hK => ?_); simp only [push_cast, seval, Nat.reduceEqDiff, Nat.reduceLeDiff, reduceCtorEq, wrap64_id (n := (m : Int) - 1) (by omega) (by omega)]; (repeat refine sk ?_); refine hK _ ?_; clear hK K)
              refine ⟨_, _, ?_, ⟨(m : Int) - 1, rfl, by omega, by omega, rfl⟩, Gh.le (by simp [push_cast, -List.getD_eq_getElem?_getD, e3]) (by simp)⟩
              omega
            | false =>
              rw [hb1, Bool.false_or] at hv
              have hset := hsn _ hv
              ((repeat refine PWp.seq ?_); refine PWp.region TT (by rfl) (fun K hK => ?_); simp only [push_cast, seval, Nat.reduceEqDiff, Nat.reduceLeDiff, reduceCtorEq, gr, hb1, hd, e2, gn1, gn, encB_set, hset, w1]; (repeat refine sk ?_); refine hK _ ?_; clear hK K)
              ((repeat refine PWp.seq ?_); refine PWp.region TT (by rfl) (fun K hK => ?_); simp only [push_cast, seval, Nat.reduceEqDiff, Nat.reduceLeDiff, reduceCtorEq, wrap64_id (n := (m : Int) - 1) (by omega) (by omega)]; (repeat refine sk ?_); refine hK _ ?_; clear hK K)
              refine ⟨_, _, ?_, ⟨(m : Int) - 1, rfl, by omega, by omega, rfl⟩, Gh.le (by simp [push_cast, -List.getD_eq_getElem?_getD, e3]) (by simp)⟩
              omega
          · have hd : decide ((m : Int) < (s.length : Int)) = false := decide_eq_false (by omega)
            have gn1 : ((nowM (atP p) L s (m + 1)).map encB).getD (m + 1) .any = .any := by
              rw [List.getD_eq_getElem?_getD, List.getElem?_eq_none (by rw [List.length_map]; omega)]
              rfl
            rw [if_neg hlt, Bool.or_false] at hv
            have hset := hsn _ hv
            cases hb1 : mt L (s.drop m) with
            | true =>
              rw [hb1] at hset
              ((repeat refine PWp.seq ?_); refine PWp.region TT (by rfl) (fun K hK => ?_); simp only [push_cast, seval, Nat.reduceEqDiff, Nat.reduceLeDiff, reduceCtorEq, gr, hb1, hd, e2, gn1, gn, encB_set, hset, w1]; (repeat refine sk ?_); refine hK _ ?_; clear hK K)
              ((repeat refine PWp.seq ?_); refine PWp.region TT (by rfl) (fun K hK => ?_); simp only [push_cast, seval, Nat.reduceEqDiff, Nat.reduceLeDiff, reduceCtorEq, wrap64_id (n := (m : Int) - 1) (by omega) (by omega)]; (repeat refine sk ?_); refine hK _ ?_; clear hK K)
              refine ⟨_, _, ?_, ⟨(m : Int) - 1, rfl, by omega, by omega, rfl⟩, Gh.le (by simp [push_cast, -List.getD_eq_getElem?_getD, e3]) (by simp)⟩
              omega
            | false =>
              rw [hb1] at hset
              ((repeat refine PWp.seq ?_); refine PWp.region TT (by rfl) (fun K hK => ?_); simp only [push_cast, seval, Nat.reduceEqDiff, Nat.reduceLeDiff, reduceCtorEq, gr, hb1, hd, e2, gn1, gn, encB_set, hset, w1]; (repeat refine sk ?_); refine hK _ ?_; clear hK K)
              ((repeat refine PWp.seq ?_); refine PWp.region TT (by rfl) (fun K hK => ?_); simp only [push_cast, seval, Nat.reduceEqDiff, Nat.reduceLeDiff, reduceCtorEq, wrap64_id (n := (m : Int) - 1) (by omega) (by omega)]; (repeat refine sk ?_); refine hK _ ?_; clear hK K)
              refine ⟨_, _, ?_, ⟨(m : Int) - 1, rfl, by omega, by omega, rfl⟩, Gh.le (by simp [push_cast, -List.getD_eq_getElem?_getD, e3]) (by simp)⟩
              omega
        · cases hc
      | false =>
        rw [ha] at hany
        have hm := mt_one (l := L) hany
        ((repeat refine PWp.seq ?_); refine PWp.region TT (by rfl) (fun K hK => ?_); simp only [push_cast, seval, Nat.reduceEqDiff, Nat.reduceLeDiff, reduceCtorEq, hg, encQ, ha]; (repeat refine sk ?_); refine hK _ ?_; clear hK K)
        ((repeat refine PWp.seq ?_); refine PWp.cond (by simp only [push_cast, seval, Nat.reduceEqDiff, Nat.reduceLeDiff, reduceCtorEq]; rfl) (fun hc => ?_) (fun hc => ?_))
        · cases hc
        · clear hc
          have hk0 : p.k ≠ 0 := of_decide_eq_false ha
          have hgq : (l.map encQ).getD k .any = .agg [.lit (.bool false), .sl 1 ((qB p).map encU)] := by
            rw [hg]
            unfold encQ
            rw [ha, if_neg hk0]
          have hqb := qB_len p
          have w1 := wrap64_id (n := (m : Int) + 1) (by omega) (by omega)
          by_cases hlt : m < s.length
          · have hd : decide ((m : Int) < (s.length : Int)) = true := decide_eq_true (by omega)
            have hx := (s.getD m 0).toNat_lt
            have gr1 : ((rowM L s).map encB).getD (m + 1) .any = .lit (.bool (mt L (s.drop (m + 1)))) := by rw [← rowM_get L s (j := m + 1) (by omega)]; exact getD_map (by omega)
            have hv : mt (atP p :: L) (s.drop m) = (decide ((s.getD m 0).toNat ∈ qB p) && mt L (s.drop (m + 1))) := by
              rw [hm, drop_getD hlt]
              show ((atP p).set (s.getD m 0).toNat && mt L (s.drop (m + 1))) = _
              rw [atP_set p _ hk0]
            ((repeat refine PWp.seq ?_); refine PWp.drawT TT (by kernel_rfl) [] (.q 0 (.q 1 (.q 2 (.q 3 (.q 4 (.q 5 (.q 6 (.q 7 (.q 8 (.q 9 (.q 10 (.q 11 (.q 12 (.q 13 (.q 14 (.x 15 (.q 16 (.q 17 (.q 18 (.q 19 (.q 20 (.q 21 (.q 22 (.q 23 (.x 24 (.x 25 .nil)))))))))))))))))))))))))) (by rfl) (by kernel_rfl) (by rfl) (by simp) (fun K hK => ?_); simp only [push_cast, seval, Nat.reduceEqDiff, Nat.reduceLeDiff, reduceCtorEq, hd, hgq, e2, w1])
            ((repeat refine sk ?_); refine PCall.use (ref_in (qB p) (s.getD m 0).toNat (by omega)) [] rfl (by simp [push_cast]) (by simp) (by simp [push_cast]) (by simp [push_cast]) (by simp [push_cast]) (by simp [push_cast]) ?_)
            rintro _ _ ⟨rfl, rfl⟩
            cases hin : decide ((s.getD m 0).toNat ∈ qB p) with
            | true =>
              rw [hin, Bool.true_and] at hv
              have hset := hsn _ hv
              (simp only [push_cast, seval, Nat.reduceEqDiff, Nat.reduceLeDiff, reduceCtorEq, hin, gr1, e2, w1, gn, encB_set, hset]; (repeat refine sk ?_); refine hK _ ?_; clear hK K)
              ((repeat refine PWp.seq ?_); refine PWp.region TT (by rfl) (fun K hK => ?_); simp only [push_cast, seval, Nat.reduceEqDiff, Nat.reduceLeDiff, reduceCtorEq, wrap64_id (n := (m : Int) - 1) (by omega) (by omega)]; (repeat refine sk ?_); refine hK _ ?_; clear hK K)
              refine ⟨_, _, ?_, ⟨(m : Int) - 1, rfl, by omega, by omega, rfl⟩, Gh.le (by simp [push_cast, -List.getD_eq_getElem?_getD, e3, encB_set, hset]) (by simp)⟩
              omega
            | false =>
              rw [hin, Bool.false_and] at hv
              have hset := hsn _ hv
              (simp only [push_cast, seval, Nat.reduceEqDiff, Nat.reduceLeDiff, reduceCtorEq, hin, gr1, e2, w1, gn, encB_set, hset]; (repeat refine sk ?_); refine hK _ ?_; clear hK K)
              ((repeat refine PWp.seq ?_); refine PWp.region TT (by rfl) (fun K hK => ?_); simp only [push_cast, seval, Nat.reduceEqDiff, Nat.reduceLeDiff, reduceCtorEq, wrap64_id (n := (m : Int) - 1) (by omega) (by omega)]; (repeat refine sk ?_); refine hK _ ?_; clear hK K)
              refine ⟨_, _, ?_, ⟨(m : Int) - 1, rfl, by omega, by omega, rfl⟩, Gh.le (by simp [push_cast, -List.getD_eq_getElem?_getD, e3, encB_set, hset]) (by simp)⟩
              omega
          · have hd : decide ((m : Int) < (s.length : Int)) = false := decide_eq_false (by omega)
            have hv : mt (atP p :: L) (s.drop m) = false := by
              rw [hm, List.drop_eq_nil_of_le (by omega)]
              rfl
            have hset := hsn _ hv
            have gr1 : ((rowM L s).map encB).getD (m + 1) .any = .any := by
              rw [List.getD_eq_getElem?_getD, List.getElem?_eq_none (by rw [List.length_map]; omega)]
              rfl
            ((repeat refine PWp.seq ?_); refine PWp.drawT TT (by kernel_rfl) [] (.q 0 (.q 1 (.q 2 (.q 3 (.q 4 (.q 5 (.q 6 (.q 7 (.q 8 (.q 9 (.q 10 (.q 11 (.q 12 (.q 13 (.q 14 (.x 15 (.q 16 (.q 17 (.q 18 (.q 19 (.q 20 (.q 21 (.q 22 (.q 23 (.x 24 (.x 25 .nil)))))))))))))))))))))))))) (by rfl) (by kernel_rfl) (by rfl) (by simp) (fun K hK => ?_); simp only [push_cast, seval, Nat.reduceEqDiff, Nat.reduceLeDiff, reduceCtorEq, hd, hgq, e2, w1, gr1, gn, encB_set, hset])
            ((repeat refine sk ?_); refine hK _ ?_; clear hK K)
            ((repeat refine PWp.seq ?_); refine PWp.region TT (by rfl) (fun K hK => ?_); simp only [push_cast, seval, Nat.reduceEqDiff, Nat.reduceLeDiff, reduceCtorEq, wrap64_id (n := (m : Int) - 1) (by omega) (by omega)]; (repeat refine sk ?_); refine hK _ ?_; clear hK K)
            refine ⟨_, _, ?_, ⟨(m : Int) - 1, rfl, by omega, by omega, rfl⟩, Gh.le (by simp [push_cast, -List.getD_eq_getElem?_getD, e3, encB_set, hset]) (by simp)⟩
            omega
    · have hj2 : j = -1 := by have := of_decide_eq_false hc; omega
      subst hj2
      clear hc
      (repeat refine PWp.seq ?_); refine PWp.exit (iteT rfl ?_)
      refine PWp.gh (Gh.freeze 0 (by rfl)) ?_
      ((repeat refine PWp.seq ?_); refine PWp.region TT (by rfl) (fun K hK => ?_); simp only [push_cast, seval, Nat.reduceEqDiff, Nat.reduceLeDiff, reduceCtorEq]; (repeat refine sk ?_); refine hK _ ?_; clear hK K)
      ((repeat refine PWp.seq ?_); refine PWp.region TT (by rfl) (fun K hK => ?_); simp only [push_cast, seval, Nat.reduceEqDiff, Nat.reduceLeDiff, reduceCtorEq, wrap64_id (n := (k : Int) - 1) (by omega) (by omega)]; (repeat refine sk ?_); refine hK _ ?_; clear hK K)
      have hz := nowM_zero (atP p) L s
      refine ⟨_, _, ?_, ⟨(k : Int) - 1, rfl, by omega, by omega, rfl⟩, Gh.le (by simp [push_cast, -List.getD_eq_getElem?_getD, show ((k : Int) - 1 + 1).toNat = k by omega, hdc, hz]) (by simp)⟩
      omega
  · have hi2 : i = -1 := by have := of_decide_eq_false hc; omega
    subst hi2
    have hg1 : ((rowM (l.map atP) s).map encB).getD 0 .any = .lit (.bool (mt (l.map atP) s)) := by
      have := rowM_get (l.map atP) s (j := 0) (Nat.zero_le _)
      rw [List.drop_zero] at this
      rw [← this]
      exact getD_map (by rw [rowM_len]; omega)
    have hrl := rowM_len (l.map atP) s
    (repeat refine PWp.seq ?_); refine PWp.exit (iteT rfl ?_)
    ((repeat refine PWp.seq ?_); refine PWp.region TT (by rfl) (fun K hK => ?_); simp only [push_cast, seval, Nat.reduceEqDiff, Nat.reduceLeDiff, reduceCtorEq, hg1]; (repeat refine sk ?_); refine hK _ ?_; clear hK K)
    ((repeat refine PWp.seq ?_); refine PWp.ret ?_)
    refine ⟨.inr rfl, by omega, _, [], ?_, rfl, rfl⟩
    (simp [push_cast, -List.getD_eq_getElem?_getD])
end Go.Proofs.Ytjlnialglahdoaa
