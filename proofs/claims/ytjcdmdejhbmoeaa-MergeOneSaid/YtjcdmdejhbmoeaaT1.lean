/- Walk of jalousieref07.Table: the table of distances. -/
import Derived.Test.YtjcdmdejhbmoeaaBX
namespace Go.Proofs.Ytjcdmdejhbmoeaa
open Go.PL
set_option maxRecDepth 100000
set_option linter.unusedSimpArgs false
set_option linter.unusedVariables false
def iN (l : List Int) : TV := .iv (.sl 1 (l.map encI))
attribute [push_cast] iN
/-- Rows and their blocks. -/
def zipP : List Nat → List (List Int) → List (Nat × List IV)
  | b :: bs, r :: T => (b, r.map encI) :: zipP bs T
  | _, _ => []
def slB (n b : Nat) : IV := .lit (.slice (some ⟨b, 0, none⟩) n n)
theorem zipP_app : ∀ (bs : List Nat) (T : List (List Int)) (b : Nat) (r : List Int), bs.length = T.length → zipP (bs ++ [b]) (T ++ [r]) = zipP bs T ++ [(b, r.map encI)]
  | [], [], b, r, _ => rfl
  | [], _ :: _, _, _, h => by simp at h
  | _ :: _, [], _, _, h => by simp at h
  | c :: bs, q :: T, b, r, h => by
    simp only [List.cons_append, zipP, List.cons.injEq, true_and]
    exact zipP_app bs T b r (by simpa using h)
theorem zipP_mem : ∀ {bs : List Nat} {T : List (List Int)}, bs.length = T.length → ∀ {b : Nat}, b ∈ bs → ∃ ys, (b, ys) ∈ zipP bs T
  | [], _, _, b, h => by cases h
  | c :: bs, [], hl, b, h => by simp at hl
  | c :: bs, q :: T, hl, b, h => by
    rcases List.mem_cons.1 h with rfl | h
    · exact ⟨_, List.mem_cons_self ..⟩
    · obtain ⟨ys, hy⟩ := zipP_mem (by simpa using hl) h
      exact ⟨ys, List.mem_cons_of_mem _ hy⟩
theorem zipP_at : ∀ {bs : List Nat} {T : List (List Int)} {i : Nat}, bs.length = T.length → bs.Nodup → i < bs.length → pinAt (zipP bs T) (bs.getD i 0) = some ((T.getD i []).map encI)
  | [], _, _, _, _, h => by simp at h
  | c :: bs, [], _, hl, _, _ => by simp at hl
  | c :: bs, q :: T, 0, hl, hn, _ => by simp [zipP, pinAt]
  | c :: bs, q :: T, i + 1, hl, hn, hi => by
    have hi' : i < bs.length := by simpa using hi
    have hm : bs.getD i 0 ∈ bs := by simp [List.getD, hi']
    have hne : (c == bs.getD i 0) = false := by
      rw [beq_eq_false_iff_ne]
      intro e
      exact (List.nodup_cons.1 hn).1 (by rw [e]; exact hm)
    simp only [zipP, pinAt, List.getD_cons_succ, hne, cond_false]
    exact zipP_at (by simpa using hl) (List.nodup_cons.1 hn).2 hi'
theorem zipP_set : ∀ {bs : List Nat} {T : List (List Int)} {i : Nat} (r : List Int), bs.length = T.length → bs.Nodup → i < bs.length → pinSet (zipP bs T) (bs.getD i 0) (r.map encI) = zipP bs (T.set i r)
  | [], _, _, _, _, _, h => by simp at h
  | c :: bs, [], _, _, hl, _, _ => by simp at hl
  | c :: bs, q :: T, 0, r, hl, hn, _ => by simp [zipP, pinSet]
  | c :: bs, q :: T, i + 1, r, hl, hn, hi => by
    have hi' : i < bs.length := by simpa using hi
    have hm : bs.getD i 0 ∈ bs := by simp [List.getD, hi']
    have hne : (c == bs.getD i 0) = false := by
      rw [beq_eq_false_iff_ne]
      intro e
      exact (List.nodup_cons.1 hn).1 (by rw [e]; exact hm)
    simp only [zipP, pinSet, List.getD_cons_succ, hne, cond_false, List.set_cons_succ]
    rw [zipP_set r (by simpa using hl) (List.nodup_cons.1 hn).2 hi']
/-- A row, from a column on. -/
def okPart (la lb i j0 : Nat) (r : List Int) : Prop := r.length = lb + 1 ∧ (∀ j, j0 ≤ j → j ≤ lb → 0 ≤ r.getD j 0 ∧ r.getD j 0 ≤ ((la - i : Nat) : Int) + ((lb - j : Nat) : Int)) ∧ (j0 ≤ lb → r.getD lb 0 = ((la - i : Nat) : Int))
theorem okPart_store {la lb i j : Nat} {r : List Int} {v : Int} (h : okPart la lb i (j + 1) r) (hj : j ≤ lb) (h0 : 0 ≤ v) (h1 : v ≤ ((la - i : Nat) : Int) + ((lb - j : Nat) : Int)) (h2 : j = lb → v = ((la - i : Nat) : Int)) : okPart la lb i j (r.set j v) := by
  obtain ⟨q1, q2, q3⟩ := h
  have hg : ∀ k, (r.set j v).getD k 0 = if k = j then v else r.getD k 0 := by
    intro k
    by_cases hk : k = j
    · subst hk
      simp [List.getD, show k < r.length by omega]
    · rw [if_neg hk]
      simp [List.getD, List.getElem?_set_ne (fun e => hk e.symm)]
  refine ⟨by simp [q1], fun k hk1 hk2 => ?_, fun _ => ?_⟩
  · rw [hg]
    by_cases hk : k = j
    · subst hk
      rw [if_pos rfl]
      exact ⟨h0, h1⟩
    · rw [if_neg hk]
      exact q2 k (by omega) hk2
  · rw [hg]
    by_cases hk : lb = j
    · rw [if_pos hk]
      exact h2 hk.symm
    · rw [if_neg hk]
      exact q3 (by omega)
def okTab (la lb : Nat) (T : List (List Int)) : Prop := T.length = la + 1 ∧ ∀ i, i ≤ la → okPart la lb i 0 (T.getD i [])
def iTab (T : List (List Int)) : TV := .iv (.sl 1 (T.map fun r => .sl 1 (r.map encI)))
theorem unpin_zip {n : Nat} : ∀ {bs : List Nat} {T : List (List Int)} {rs : List (Nat × List IV)}, bs.length = T.length → (∀ r ∈ T, r.length = n) → (∀ x ∈ zipP bs T, x ∈ rs) → unpinL rs (bs.map (slB n)) (T.map fun r => .sl 1 (r.map encI))
  | [], [], _, _, _, _ => trivial
  | [], _ :: _, _, h, _, _ => by simp at h
  | _ :: _, [], _, h, _, _ => by simp at h
  | b :: bs, r :: T, rs, hl, hn, hm => by
    refine ⟨⟨b, r.map encI, hm _ (by simp [zipP]), ?_, rfl, fun z hz => ?_⟩, unpin_zip (by simpa using hl) (fun q hq => hn q (List.mem_cons_of_mem _ hq)) (fun x hx => hm x (by simp [zipP, hx]))⟩
    · rw [List.length_map, hn r (List.mem_cons_self ..)]
      rfl
    · obtain ⟨x, _, rfl⟩ := List.mem_map.1 hz
      rfl
theorem one_slice (A : Option Addr) (n c : Nat) : ((Value.slice A n c).oneCell' = true) = True := by simp [Value.oneCell']
theorem row_mem {T : List (List Int)} {i : Nat} (h : i < T.length) : T.getD i [] ∈ T := by simp [List.getD, h]
theorem slB_get {bs : List Nat} {n i : Nat} (h : i < bs.length) : (bs.map (slB n)).getD i .any = .lit (.slice (some ⟨bs.getD i 0, 0, none⟩) n n) := by simp [List.getD, h, slB]
theorem ref07_Table (a b : List Int) (ha : a.length ≤ 400) (hb : b.length ≤ 400) : PC Try.prog 55 [iN a, iN b] [] 0 2 (fun t obs => (∃ T, okTab a.length b.length T ∧ t = iTab T) ∧ obs = []) := by
  have hz : List.replicate (b.length + 1) (IV.lit (.int .i64 0)) = (List.replicate (b.length + 1) (0 : Int)).map encI := by simp [encI]
  refine PC.body [4] Try.func55 rfl (by rfl) (Nat.le_of_ble_eq_true (by rfl)) rfl ?_; simp only [enumA]
  ((repeat refine PWp.seq ?_); refine PWp.region TT (by rfl) (fun K hK => ?_); simp only [push_cast, seval, Nat.reduceEqDiff, Nat.reduceLeDiff, reduceCtorEq]; (repeat refine sk ?_); refine hK _ ?_; clear hK K)
  ((repeat refine PWp.seq ?_); refine PWp.region TT (by rfl) (fun K hK => ?_); simp only [push_cast, seval, Nat.reduceEqDiff, Nat.reduceLeDiff, reduceCtorEq]; (repeat refine sk ?_); refine hK _ ?_; clear hK K)
  refine PWp.gh (Gh.pins0 3) ?_
  ((repeat refine PWp.seq ?_); refine PWp.region TT (by rfl) (fun K hK => ?_); simp only [push_cast, seval, Nat.reduceEqDiff, Nat.reduceLeDiff, reduceCtorEq]; (repeat refine sk ?_); refine hK _ ?_; clear hK K)
  ((repeat refine PWp.seq ?_); refine PWp.block ?_)
  refine PWp.loop (fun c st => ∃ (k : Nat) (bs : List Nat) (T : List (List Int)), c = a.length + 1 - k ∧ k ≤ a.length + 1 ∧ bs.length = k ∧ T.length = k ∧ bs.Nodup ∧ (∀ r ∈ T, r.length = b.length + 1) ∧
    st = ⟨[(0, iN a), (1, iN b), (5, .acc 0 1 (bs.map (slB (b.length + 1)))), (6, iI k)], [(1, .pins 3 (zipP bs T)), (0, .row 64 1)], 2⟩) _ _ ⟨0, [], [], rfl, Nat.zero_le _, rfl, rfl, List.nodup_nil, by simp, rfl⟩ (Gh.le (by simp [push_cast, -List.getD_eq_getElem?_getD, zipP]) (by simp)) ?_
  rintro c st ⟨k, bs, T, rfl, hk, hbl, hTl, hnd, hrl, rfl⟩
  ((repeat refine PWp.seq ?_); refine PWp.region TT (by rfl) (fun K hK => ?_); simp only [push_cast, seval, Nat.reduceEqDiff, Nat.reduceLeDiff, reduceCtorEq]; (repeat refine sk ?_); refine hK _ ?_; clear hK K)
  ((repeat refine PWp.seq ?_); refine PWp.cond (by simp only [push_cast, seval, Nat.reduceEqDiff, Nat.reduceLeDiff, reduceCtorEq]; rfl) (fun hc => ?_) (fun hc => ?_))
  · have hlt : k ≤ a.length := by simp at hc; omega
    clear hc
    ((repeat refine PWp.seq ?_); refine PWp.skip ?_)
    ((repeat refine PWp.seq ?_); refine PWp.block ?_)
    have hn1 : ((b.length : Int) + 1).toNat = b.length + 1 := by omega
    ((repeat refine PWp.seq ?_); refine PWp.region TT (by rfl) (fun K hK => ?_); simp only [push_cast, seval, Nat.reduceEqDiff, Nat.reduceLeDiff, reduceCtorEq, wrap64_id (n := (b.length : Int) + 1) (by omega) (by omega), hn1, hz, List.length_replicate, one_slice])
    (repeat refine sk ?_)
    intro nb hnb
    have hzp := zipP_app bs T nb (List.replicate (b.length + 1) 0) (by omega)
    ((repeat refine sk ?_); refine hK _ ?_; clear hK K)
    ((repeat refine PWp.seq ?_); refine PWp.region TT (by rfl) (fun K hK => ?_); simp only [push_cast, seval, Nat.reduceEqDiff, Nat.reduceLeDiff, reduceCtorEq, wrap64_id (n := (k : Int) + 1) (by omega) (by omega)]; (repeat refine sk ?_); refine hK _ ?_; clear hK K)
    refine ⟨_, _, ?_, ⟨k + 1, bs ++ [nb], T ++ [List.replicate (b.length + 1) 0], rfl, by omega, by simp [hbl], by simp [hTl], ?_, ?_, rfl⟩, Gh.leR [0, 3] (by simp [push_cast, -List.getD_eq_getElem?_getD, slB, hzp]; try decide)⟩
    · omega
    · rw [List.nodup_append]
      refine ⟨hnd, by simp, fun x hx y hy => ?_⟩
      simp only [List.mem_singleton] at hy
      subst hy
      intro e
      subst e
      obtain ⟨ys, hy⟩ := zipP_mem (T := T) (by omega) hx
      exact hnb ys hy
    · intro r hr
      rcases List.mem_append.1 hr with hr | hr
      · exact hrl r hr
      · simp only [List.mem_singleton] at hr
        subst hr
        simp
  · have hk' : k = a.length + 1 := by simp at hc; omega
    subst hk'
    clear hc
    (repeat refine PWp.seq ?_); refine PWp.exit (iteT rfl ?_)
    ((repeat refine PWp.seq ?_); refine PWp.region TT (by rfl) (fun K hK => ?_); simp only [push_cast, seval, Nat.reduceEqDiff, Nat.reduceLeDiff, reduceCtorEq]; (repeat refine sk ?_); refine hK _ ?_; clear hK K)
    ((repeat refine PWp.seq ?_); refine PWp.block ?_)
    refine PWp.loop (fun c st => ∃ (T : List (List Int)), c ≤ a.length + 1 ∧ T.length = a.length + 1 ∧ (∀ r ∈ T, r.length = b.length + 1) ∧ (∀ i, c ≤ i → i ≤ a.length → okPart a.length b.length i 0 (T.getD i [])) ∧
      st = ⟨[(0, iN a), (1, iN b), (5, .acc 0 1 (bs.map (slB (b.length + 1)))), (7, iI ((c : Int) - 1))], [(1, .pins 3 (zipP bs T)), (0, .row 64 1)], 2⟩) _ _ ⟨T, Nat.le_refl _, by omega, hrl, fun i h1 h2 => by omega, rfl⟩ (Gh.le (by simp [push_cast, -List.getD_eq_getElem?_getD]) (by simp)) ?_
    clear hrl hTl
    rintro c st ⟨T, hcl, hTl, hrl, hok, rfl⟩
    ((repeat refine PWp.seq ?_); refine PWp.region TT (by rfl) (fun K hK => ?_); simp only [push_cast, seval, Nat.reduceEqDiff, Nat.reduceLeDiff, reduceCtorEq]; (repeat refine sk ?_); refine hK _ ?_; clear hK K)
    ((repeat refine PWp.seq ?_); refine PWp.cond (by simp only [push_cast, seval, Nat.reduceEqDiff, Nat.reduceLeDiff, reduceCtorEq]; rfl) (fun hc => ?_) (fun hc => ?_))
    · have hc0 : 0 < c := by simp at hc; omega
      clear hc
      obtain ⟨i, rfl⟩ : ∃ i, c = i + 1 := ⟨c - 1, by omega⟩
      ((repeat refine PWp.seq ?_); refine PWp.skip ?_)
      ((repeat refine PWp.seq ?_); refine PWp.block ?_)
      ((repeat refine PWp.seq ?_); refine PWp.region TT (by rfl) (fun K hK => ?_); simp only [push_cast, seval, Nat.reduceEqDiff, Nat.reduceLeDiff, reduceCtorEq]; (repeat refine sk ?_); refine hK _ ?_; clear hK K)
      ((repeat refine PWp.seq ?_); refine PWp.block ?_)
      refine PWp.loop (fun c st => ∃ (T : List (List Int)), c ≤ b.length + 1 ∧ T.length = a.length + 1 ∧ (∀ r ∈ T, r.length = b.length + 1) ∧ (∀ i', i + 1 ≤ i' → i' ≤ a.length → okPart a.length b.length i' 0 (T.getD i' [])) ∧ okPart a.length b.length i c (T.getD i []) ∧
        st = ⟨[(0, iN a), (1, iN b), (5, .acc 0 1 (bs.map (slB (b.length + 1)))), (7, iI (i : Int)), (8, iI ((c : Int) - 1))], [(1, .pins 3 (zipP bs T)), (0, .row 64 1)], 2⟩) _ _ ⟨T, Nat.le_refl _, hTl, hrl, hok, ⟨hrl _ (row_mem (by omega)), fun j h1 h2 => by omega, fun h => by omega⟩, rfl⟩ (Gh.le (by simp [push_cast, -List.getD_eq_getElem?_getD]) (by simp)) ?_
      clear hrl hTl hok
      rintro c st ⟨T, hcj, hTl, hrl, hok, hp, rfl⟩
      ((repeat refine PWp.seq ?_); refine PWp.region TT (by rfl) (fun K hK => ?_); simp only [push_cast, seval, Nat.reduceEqDiff, Nat.reduceLeDiff, reduceCtorEq]; (repeat refine sk ?_); refine hK _ ?_; clear hK K)
      ((repeat refine PWp.seq ?_); refine PWp.cond (by simp only [push_cast, seval, Nat.reduceEqDiff, Nat.reduceLeDiff, reduceCtorEq]; rfl) (fun hc => ?_) (fun hc => ?_))
      · have hc0 : 0 < c := by simp at hc; omega
        clear hc
        obtain ⟨j, rfl⟩ : ∃ j, c = j + 1 := ⟨c - 1, by omega⟩
        have hjl : j ≤ b.length := by omega
        have hil : i ≤ a.length := by omega
        have hpa := zipP_at (T := T) (i := i) (by omega) hnd (by omega)
        have hLi : (bs.map (slB (b.length + 1))).getD i .any = .lit (.slice (some ⟨bs.getD i 0, 0, none⟩) (b.length + 1) (b.length + 1)) := slB_get (by omega)
        have hps : ∀ v : Int, pinSet (zipP bs T) (bs.getD i 0) (((T.getD i []).map encI).set j (.lit (.int .i64 v))) = zipP bs (T.set i ((T.getD i []).set j v)) := fun v => by
          rw [← zipP_set ((T.getD i []).set j v) (by omega) hnd (by omega), List.map_set]
          rfl
        have hgs : ∀ r : List Int, (T.set i r).getD i [] = r := fun r => by simp [List.getD, show i < T.length by omega]
        have hrowl : ((T.getD i []).map encI).length = b.length + 1 := by rw [List.length_map]; exact hp.1
        have hlens : ∀ v : Int, ∀ r ∈ T.set i ((T.getD i []).set j v), r.length = b.length + 1 := fun v r hr => by
          rcases List.mem_or_eq_of_mem_set hr with hr | rfl
          · exact hrl r hr
          · rw [List.length_set]; exact hp.1
        have hrest : ∀ v : Int, ∀ i', i + 1 ≤ i' → i' ≤ a.length → okPart a.length b.length i' 0 ((T.set i ((T.getD i []).set j v)).getD i' []) := fun v i' h1 h2 => by
          have : (T.set i ((T.getD i []).set j v)).getD i' [] = T.getD i' [] := by simp [List.getD, List.getElem?_set_ne (show i ≠ i' by omega)]
          rw [this]
          exact hok i' h1 h2
        ((repeat refine PWp.seq ?_); refine PWp.skip ?_)
        ((repeat refine PWp.seq ?_); refine PWp.block ?_)
        ((repeat refine PWp.seq ?_); refine PWp.region TT (by rfl) (fun K hK => ?_); simp only [push_cast, seval, Nat.reduceEqDiff, Nat.reduceLeDiff, reduceCtorEq]; (repeat refine sk ?_); refine hK _ ?_; clear hK K)
        ((repeat refine PWp.seq ?_); refine PWp.cond (by simp only [push_cast, seval, Nat.reduceEqDiff, Nat.reduceLeDiff, reduceCtorEq]; rfl) (fun hc => ?_) (fun hc => ?_))
        · have hi : i = a.length := by simp at hc; omega
          clear hc
          ((repeat refine PWp.seq ?_); refine PWp.region TT (by rfl) (fun K hK => ?_); simp only [push_cast, seval, Nat.reduceEqDiff, Nat.reduceLeDiff, reduceCtorEq, hLi, hpa, hrowl, Int.add_sub_cancel, wrap64_id (n := (b.length : Int) - (j : Int)) (by omega) (by omega)]; (repeat refine sk ?_); refine hK _ ?_; clear hK K)
          ((repeat refine PWp.seq ?_); refine PWp.region TT (by rfl) (fun K hK => ?_); simp only [push_cast, seval, Nat.reduceEqDiff, Nat.reduceLeDiff, reduceCtorEq, Int.add_sub_cancel, wrap64_id (n := (j : Int) - 1) (by omega) (by omega)]; (repeat refine sk ?_); refine hK _ ?_; clear hK K)
          refine ⟨j, _, ?_, ⟨T.set i ((T.getD i []).set j ((b.length : Int) - (j : Int))), by omega, by rw [List.length_set]; exact hTl, hlens _, hrest _, ?_, rfl⟩, Gh.le (by simp [push_cast, -List.getD_eq_getElem?_getD, hps]) (by simp)⟩
          · omega
          · rw [hgs]
            exact okPart_store hp hjl (by omega) (by omega) (by omega)
        · have hne : i ≠ a.length := by simp at hc; omega
          clear hc
          have hia : i < a.length := by omega
          ((repeat refine PWp.seq ?_); refine PWp.region TT (by rfl) (fun K hK => ?_); simp only [push_cast, seval, Nat.reduceEqDiff, Nat.reduceLeDiff, reduceCtorEq]; (repeat refine sk ?_); refine hK _ ?_; clear hK K)
          ((repeat refine PWp.seq ?_); refine PWp.cond (by simp only [push_cast, seval, Nat.reduceEqDiff, Nat.reduceLeDiff, reduceCtorEq]; rfl) (fun hc => ?_) (fun hc => ?_))
          · have hj : j = b.length := by simp at hc; omega
            clear hc
            ((repeat refine PWp.seq ?_); refine PWp.region TT (by rfl) (fun K hK => ?_); simp only [push_cast, seval, Nat.reduceEqDiff, Nat.reduceLeDiff, reduceCtorEq, hLi, hpa, hrowl, Int.add_sub_cancel, wrap64_id (n := (a.length : Int) - (i : Int)) (by omega) (by omega)]; (repeat refine sk ?_); refine hK _ ?_; clear hK K)
            ((repeat refine PWp.seq ?_); refine PWp.region TT (by rfl) (fun K hK => ?_); simp only [push_cast, seval, Nat.reduceEqDiff, Nat.reduceLeDiff, reduceCtorEq, Int.add_sub_cancel, wrap64_id (n := (j : Int) - 1) (by omega) (by omega)]; (repeat refine sk ?_); refine hK _ ?_; clear hK K)
            refine ⟨j, _, ?_, ⟨T.set i ((T.getD i []).set j ((a.length : Int) - (i : Int))), by omega, by rw [List.length_set]; exact hTl, hlens _, hrest _, ?_, rfl⟩, Gh.le (by simp [push_cast, -List.getD_eq_getElem?_getD, hps]) (by simp)⟩
            · omega
            · rw [hgs]
              exact okPart_store hp hjl (by omega) (by omega) (by omega)
          · have hnj : j ≠ b.length := by simp at hc; omega
            clear hc
            have hjb : j < b.length := by omega
            have hok1 := hok (i + 1) (Nat.le_refl _) (by omega)
            have hpa1 := zipP_at (T := T) (i := i + 1) (by omega) hnd (by omega)
            have hLi1 : (bs.map (slB (b.length + 1))).getD (i + 1) .any = .lit (.slice (some ⟨bs.getD (i + 1) 0, 0, none⟩) (b.length + 1) (b.length + 1)) := slB_get (by omega)
            have hrowl1 : ((T.getD (i + 1) []).map encI).length = b.length + 1 := by rw [List.length_map]; exact hok1.1
            have t1 : ((i : Int) + 1).toNat = i + 1 := by omega
            have t2 : ((j : Int) + 1).toNat = j + 1 := by omega
            have v11 : ((T.getD (i + 1) []).map encI).getD (j + 1) .any = .lit (.int .i64 ((T.getD (i + 1) []).getD (j + 1) 0)) := getD_map (show j + 1 < (T.getD (i + 1) []).length by have := hok1.1; omega)
            have v10 : ((T.getD (i + 1) []).map encI).getD j .any = .lit (.int .i64 ((T.getD (i + 1) []).getD j 0)) := getD_map (show j < (T.getD (i + 1) []).length by have := hok1.1; omega)
            have v01 : ((T.getD i []).map encI).getD (j + 1) .any = .lit (.int .i64 ((T.getD i []).getD (j + 1) 0)) := getD_map (show j + 1 < (T.getD i []).length by have := hp.1; omega)
            have b11 := hok1.2.1 (j + 1) (by omega) (by omega)
            have b10 := hok1.2.1 j (by omega) (by omega)
            have b01 := hp.2.1 (j + 1) (by omega) (by omega)
            generalize hx11 : (T.getD (i + 1) []).getD (j + 1) 0 = x11 at *
            generalize hx10 : (T.getD (i + 1) []).getD j 0 = x10 at *
            generalize hx01 : (T.getD i []).getD (j + 1) 0 = x01 at *
            ((repeat refine PWp.seq ?_); refine PWp.draw TT (by kernel_rfl) (by kernel_rfl) (by rfl) (by rfl) (fun K hK => ?_); simp only [push_cast, seval, Nat.reduceEqDiff, Nat.reduceLeDiff, reduceCtorEq, Int.add_sub_cancel, getD_map hia, getD_map hjb]; (repeat refine sk ?_); refine hK _ ?_; clear hK K)
            ((repeat refine PWp.seq ?_); refine PWp.cond (by simp only [push_cast, seval, Nat.reduceEqDiff, Nat.reduceLeDiff, reduceCtorEq]; rfl) (fun hc => ?_) (fun hc => ?_))
            · clear hc
              ((repeat refine PWp.seq ?_); refine PWp.drawT TT (by kernel_rfl) [] (.q 0 (.q 1 (.q 2 (.q 3 (.q 4 (.q 5 (.q 6 (.q 7 (.q 8 (.q 9 (.q 10 (.q 11 (.q 12 (.x 13 (.q 14 (.x 15 .nil)))))))))))))))) (by rfl) (by kernel_rfl) (by rfl) (by simp) (fun K hK => ?_); simp only [push_cast, seval, Nat.reduceEqDiff, Nat.reduceLeDiff, reduceCtorEq, Int.add_sub_cancel, hLi, hLi1, hpa, hpa1, hrowl, hrowl1, t1, t2, v11, wrap64_id (n := (i : Int) + 1) (by omega) (by omega), wrap64_id (n := (j : Int) + 1) (by omega) (by omega)]; (repeat refine sk ?_); refine hK _ ?_; clear hK K)
              ((repeat refine PWp.seq ?_); refine PWp.region TT (by rfl) (fun K hK => ?_); simp only [push_cast, seval, Nat.reduceEqDiff, Nat.reduceLeDiff, reduceCtorEq, Int.add_sub_cancel, wrap64_id (n := (j : Int) - 1) (by omega) (by omega)]; (repeat refine sk ?_); refine hK _ ?_; clear hK K)
              refine ⟨j, _, ?_, ⟨T.set i ((T.getD i []).set j (x11)), by omega, by rw [List.length_set]; exact hTl, hlens _, hrest _, ?_, rfl⟩, Gh.le (by simp [push_cast, -List.getD_eq_getElem?_getD, hps]) (by simp)⟩
              · omega
              · rw [hgs]
                exact okPart_store hp hjl (by omega) (by omega) (by omega)
            · clear hc
              ((repeat refine PWp.seq ?_); refine PWp.drawT TT (by kernel_rfl) [] (.q 0 (.q 1 (.q 2 (.q 3 (.q 4 (.q 5 (.q 6 (.q 8 (.q 9 (.q 10 (.q 11 (.q 12 (.q 13 (.q 14 (.alt 7 (.x 15 (.q 16 .nil)) (.x 15 (.x 7 (.q 16 .nil)))))))))))))))))) (by rfl) (by kernel_rfl) (by rfl) (by simp) (fun K hK => ?_); simp only [push_cast, seval, Nat.reduceEqDiff, Nat.reduceLeDiff, reduceCtorEq, Int.add_sub_cancel, hLi, hLi1, hpa, hpa1, hrowl, hrowl1, t1, t2, v10, v01, wrap64_id (n := (i : Int) + 1) (by omega) (by omega), wrap64_id (n := (j : Int) + 1) (by omega) (by omega)])
              (repeat refine sk ?_)
              refine ⟨?_, ?_⟩
              · ((repeat refine sk ?_); refine hK _ ?_; clear hK K)
                ((repeat refine PWp.seq ?_); refine PWp.cond (by simp only [push_cast, seval, Nat.reduceEqDiff, Nat.reduceLeDiff, reduceCtorEq]; rfl) (fun hc => ?_) (fun hc => ?_))
                · simp only [Bool.or_eq_true, Bool.and_eq_true, Bool.not_eq_true', Bool.not_eq_false', Bool.or_eq_false_iff, Bool.and_eq_false_iff, decide_eq_true_eq, decide_eq_false_iff_not, beq_iff_eq, beq_eq_false_iff_ne, bne_iff_ne, bne_eq_false_iff_eq, ne_eq, Classical.not_not, Int.not_lt, Int.not_le, ge_iff_le, gt_iff_lt] at hc
                  ((repeat refine PWp.seq ?_); refine PWp.drawT TT (by kernel_rfl) [] (.q 0 (.q 1 (.q 2 (.q 3 (.q 4 (.q 5 (.q 6 (.q 7 (.q 8 (.q 9 (.q 10 (.q 11 (.x 12 (.q 13 (.q 14 (.x 15 .nil)))))))))))))))) (by rfl) (by kernel_rfl) (by rfl) (by simp) (fun K hK => ?_); simp only [push_cast, seval, Nat.reduceEqDiff, Nat.reduceLeDiff, reduceCtorEq, Int.add_sub_cancel, hLi, hLi1, hpa, hpa1, hrowl, hrowl1, t1, t2, v10, wrap64_id (n := (i : Int) + 1) (by omega) (by omega), wrap64_id (n := (j : Int) + 1) (by omega) (by omega), wrap64_id (n := x10 + 1) (by omega) (by omega)]; (repeat refine sk ?_); refine hK _ ?_; clear hK K)
                  ((repeat refine PWp.seq ?_); refine PWp.region TT (by rfl) (fun K hK => ?_); simp only [push_cast, seval, Nat.reduceEqDiff, Nat.reduceLeDiff, reduceCtorEq, Int.add_sub_cancel, wrap64_id (n := (j : Int) - 1) (by omega) (by omega)]; (repeat refine sk ?_); refine hK _ ?_; clear hK K)
                  refine ⟨j, _, ?_, ⟨T.set i ((T.getD i []).set j (x10 + 1)), by omega, by rw [List.length_set]; exact hTl, hlens _, hrest _, ?_, rfl⟩, Gh.le (by simp [push_cast, -List.getD_eq_getElem?_getD, hps]) (by simp)⟩
                  · omega
                  · rw [hgs]
                    exact okPart_store hp hjl (by omega) (by omega) (by omega)
                · simp only [Bool.or_eq_true, Bool.and_eq_true, Bool.not_eq_true', Bool.not_eq_false', Bool.or_eq_false_iff, Bool.and_eq_false_iff, decide_eq_true_eq, decide_eq_false_iff_not, beq_iff_eq, beq_eq_false_iff_ne, bne_iff_ne, bne_eq_false_iff_eq, ne_eq, Classical.not_not, Int.not_lt, Int.not_le, ge_iff_le, gt_iff_lt] at hc
                  ((repeat refine PWp.seq ?_); refine PWp.drawT TT (by kernel_rfl) [] (.q 0 (.q 1 (.q 2 (.q 3 (.q 4 (.q 5 (.q 6 (.q 7 (.q 8 (.q 9 (.q 10 (.q 11 (.x 12 (.q 13 (.q 14 (.x 15 .nil)))))))))))))))) (by rfl) (by kernel_rfl) (by rfl) (by simp) (fun K hK => ?_); simp only [push_cast, seval, Nat.reduceEqDiff, Nat.reduceLeDiff, reduceCtorEq, Int.add_sub_cancel, hLi, hLi1, hpa, hpa1, hrowl, hrowl1, t1, t2, v01, wrap64_id (n := (i : Int) + 1) (by omega) (by omega), wrap64_id (n := (j : Int) + 1) (by omega) (by omega), wrap64_id (n := x01 + 1) (by omega) (by omega)]; (repeat refine sk ?_); refine hK _ ?_; clear hK K)
                  ((repeat refine PWp.seq ?_); refine PWp.region TT (by rfl) (fun K hK => ?_); simp only [push_cast, seval, Nat.reduceEqDiff, Nat.reduceLeDiff, reduceCtorEq, Int.add_sub_cancel, wrap64_id (n := (j : Int) - 1) (by omega) (by omega)]; (repeat refine sk ?_); refine hK _ ?_; clear hK K)
                  refine ⟨j, _, ?_, ⟨T.set i ((T.getD i []).set j (x01 + 1)), by omega, by rw [List.length_set]; exact hTl, hlens _, hrest _, ?_, rfl⟩, Gh.le (by simp [push_cast, -List.getD_eq_getElem?_getD, hps]) (by simp)⟩
                  · omega
                  · rw [hgs]
                    exact okPart_store hp hjl (by omega) (by omega) (by omega)
              · ((repeat refine sk ?_); refine hK _ ?_; clear hK K)
                ((repeat refine PWp.seq ?_); refine PWp.cond (by simp only [push_cast, seval, Nat.reduceEqDiff, Nat.reduceLeDiff, reduceCtorEq]; rfl) (fun hc => ?_) (fun hc => ?_))
                · simp only [Bool.or_eq_true, Bool.and_eq_true, Bool.not_eq_true', Bool.not_eq_false', Bool.or_eq_false_iff, Bool.and_eq_false_iff, decide_eq_true_eq, decide_eq_false_iff_not, beq_iff_eq, beq_eq_false_iff_ne, bne_iff_ne, bne_eq_false_iff_eq, ne_eq, Classical.not_not, Int.not_lt, Int.not_le, ge_iff_le, gt_iff_lt] at hc
                  ((repeat refine PWp.seq ?_); refine PWp.drawT TT (by kernel_rfl) [] (.q 0 (.q 1 (.q 2 (.q 3 (.q 4 (.q 5 (.q 6 (.q 7 (.q 8 (.q 9 (.q 10 (.q 11 (.x 12 (.q 13 (.q 14 (.x 15 .nil)))))))))))))))) (by rfl) (by kernel_rfl) (by rfl) (by simp) (fun K hK => ?_); simp only [push_cast, seval, Nat.reduceEqDiff, Nat.reduceLeDiff, reduceCtorEq, Int.add_sub_cancel, hLi, hLi1, hpa, hpa1, hrowl, hrowl1, t1, t2, v10, wrap64_id (n := (i : Int) + 1) (by omega) (by omega), wrap64_id (n := (j : Int) + 1) (by omega) (by omega), wrap64_id (n := x10 + 1) (by omega) (by omega)]; (repeat refine sk ?_); refine hK _ ?_; clear hK K)
                  ((repeat refine PWp.seq ?_); refine PWp.region TT (by rfl) (fun K hK => ?_); simp only [push_cast, seval, Nat.reduceEqDiff, Nat.reduceLeDiff, reduceCtorEq, Int.add_sub_cancel, wrap64_id (n := (j : Int) - 1) (by omega) (by omega)]; (repeat refine sk ?_); refine hK _ ?_; clear hK K)
                  refine ⟨j, _, ?_, ⟨T.set i ((T.getD i []).set j (x10 + 1)), by omega, by rw [List.length_set]; exact hTl, hlens _, hrest _, ?_, rfl⟩, Gh.le (by simp [push_cast, -List.getD_eq_getElem?_getD, hps]) (by simp)⟩
                  · omega
                  · rw [hgs]
                    exact okPart_store hp hjl (by omega) (by omega) (by omega)
                · simp only [Bool.or_eq_true, Bool.and_eq_true, Bool.not_eq_true', Bool.not_eq_false', Bool.or_eq_false_iff, Bool.and_eq_false_iff, decide_eq_true_eq, decide_eq_false_iff_not, beq_iff_eq, beq_eq_false_iff_ne, bne_iff_ne, bne_eq_false_iff_eq, ne_eq, Classical.not_not, Int.not_lt, Int.not_le, ge_iff_le, gt_iff_lt] at hc
                  ((repeat refine PWp.seq ?_); refine PWp.drawT TT (by kernel_rfl) [] (.q 0 (.q 1 (.q 2 (.q 3 (.q 4 (.q 5 (.q 6 (.q 7 (.q 8 (.q 9 (.q 10 (.q 11 (.x 12 (.q 13 (.q 14 (.x 15 .nil)))))))))))))))) (by rfl) (by kernel_rfl) (by rfl) (by simp) (fun K hK => ?_); simp only [push_cast, seval, Nat.reduceEqDiff, Nat.reduceLeDiff, reduceCtorEq, Int.add_sub_cancel, hLi, hLi1, hpa, hpa1, hrowl, hrowl1, t1, t2, v01, wrap64_id (n := (i : Int) + 1) (by omega) (by omega), wrap64_id (n := (j : Int) + 1) (by omega) (by omega), wrap64_id (n := x01 + 1) (by omega) (by omega)]; (repeat refine sk ?_); refine hK _ ?_; clear hK K)
                  ((repeat refine PWp.seq ?_); refine PWp.region TT (by rfl) (fun K hK => ?_); simp only [push_cast, seval, Nat.reduceEqDiff, Nat.reduceLeDiff, reduceCtorEq, Int.add_sub_cancel, wrap64_id (n := (j : Int) - 1) (by omega) (by omega)]; (repeat refine sk ?_); refine hK _ ?_; clear hK K)
                  refine ⟨j, _, ?_, ⟨T.set i ((T.getD i []).set j (x01 + 1)), by omega, by rw [List.length_set]; exact hTl, hlens _, hrest _, ?_, rfl⟩, Gh.le (by simp [push_cast, -List.getD_eq_getElem?_getD, hps]) (by simp)⟩
                  · omega
                  · rw [hgs]
                    exact okPart_store hp hjl (by omega) (by omega) (by omega)
      · have hj0 : c = 0 := by simp at hc; omega
        subst hj0
        clear hc
        (repeat refine PWp.seq ?_); refine PWp.exit (iteT rfl ?_)
        ((repeat refine PWp.seq ?_); refine PWp.region TT (by rfl) (fun K hK => ?_); simp only [push_cast, seval, Nat.reduceEqDiff, Nat.reduceLeDiff, reduceCtorEq, wrap64_id (n := (i : Int) - 1) (by omega) (by omega)]; (repeat refine sk ?_); refine hK _ ?_; clear hK K)
        refine ⟨i, _, ?_, ⟨T, by omega, hTl, hrl, fun i' h1 h2 => ?_, rfl⟩, Gh.le (by simp [push_cast, -List.getD_eq_getElem?_getD]) (by simp)⟩
        · omega
        · by_cases e : i' = i
          · subst e; exact hp
          · exact hok i' (by omega) h2
    · have hc0 : c = 0 := by simp at hc; omega
      subst hc0
      clear hc
      (repeat refine PWp.seq ?_); refine PWp.exit (iteT rfl ?_)
      refine PWp.gh (Gh.unpin 5 1 (e := 3) (rs := zipP bs T) (L := bs.map (slB (b.length + 1))) (L' := T.map fun r => .sl 1 (r.map encI)) (by rfl) (by rfl) (unpin_zip (by omega) hrl (fun x hx => hx))) ?_
      ((repeat refine PWp.seq ?_); refine PWp.region TT (by rfl) (fun K hK => ?_); simp only [push_cast, seval, Nat.reduceEqDiff, Nat.reduceLeDiff, reduceCtorEq]; (repeat refine sk ?_); refine hK _ ?_; clear hK K)
      ((repeat refine PWp.seq ?_); refine PWp.ret ?_)
      refine ⟨.inr rfl, by omega, _, [], ?_, ⟨T, ⟨hTl, fun i hi => hok i (Nat.zero_le _) hi⟩, rfl⟩, rfl⟩
      unfold iTab
      (simp [push_cast, -List.getD_eq_getElem?_getD])
end Go.Proofs.Ytjcdmdejhbmoeaa
