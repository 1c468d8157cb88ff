/- Several texts in one: V4, V5, V6, V7, V8, V9, V10. -/
import Derived.Test.YtmocgjimlhgejaaV3
namespace Go.Proofs.Ytmocgjimlhgejaa
open Go.PL
set_option maxRecDepth 100000
set_option linter.unusedSimpArgs false
set_option linter.unusedVariables false
def iN (l : List Int) : TV := .iv (.sl 1 (l.map encI))
attribute [push_cast] iN
/-- Rows and their blocks. -/
def zipP : List Nat → List (List Int) → List (Nat × List IV)
  | b :: bs, r :: T => (b, r.map encI) :: zipP bs T
  | _, _ => []
def slB (n b : Nat) : IV := .lit (.slice (some ⟨b, 0, none⟩) n n)
theorem zipP_app : ∀ (bs : List Nat) (T : List (List Int)) (b : Nat) (r : List Int), bs.length = T.length → zipP (bs ++ [b]) (T ++ [r]) = zipP bs T ++ [(b, r.map encI)]
  | [], [], b, r, _ => rfl
  | [], _ :: _, _, _, h => by simp at h
  | _ :: _, [], _, _, h => by simp at h
  | c :: bs, q :: T, b, r, h => by
    simp only [List.cons_append, zipP, List.cons.injEq, true_and]
    exact zipP_app bs T b r (by simpa using h)
theorem zipP_mem : ∀ {bs : List Nat} {T : List (List Int)}, bs.length = T.length → ∀ {b : Nat}, b ∈ bs → ∃ ys, (b, ys) ∈ zipP bs T
  | [], _, _, b, h => by cases h
  | c :: bs, [], hl, b, h => by simp at hl
  | c :: bs, q :: T, hl, b, h => by
    rcases List.mem_cons.1 h with rfl | h
    · exact ⟨_, List.mem_cons_self ..⟩
    · obtain ⟨ys, hy⟩ := zipP_mem (by simpa using hl) h
      exact ⟨ys, List.mem_cons_of_mem _ hy⟩
theorem zipP_at : ∀ {bs : List Nat} {T : List (List Int)} {i : Nat}, bs.length = T.length → bs.Nodup → i < bs.length → pinAt (zipP bs T) (bs.getD i 0) = some ((T.getD i []).map encI)
  | [], _, _, _, _, h => by simp at h
  | c :: bs, [], _, hl, _, _ => by simp at hl
  | c :: bs, q :: T, 0, hl, hn, _ => by simp [zipP, pinAt]
  | c :: bs, q :: T, i + 1, hl, hn, hi => by
    have hi' : i < bs.length := by simpa using hi
    have hm : bs.getD i 0 ∈ bs := by simp [List.getD, hi']
    have hne : (c == bs.getD i 0) = false := by
      rw [beq_eq_false_iff_ne]
      intro e
      exact (List.nodup_cons.1 hn).1 (by rw [e]; exact hm)
    simp only [zipP, pinAt, List.getD_cons_succ, hne, cond_false]
    exact zipP_at (by simpa using hl) (List.nodup_cons.1 hn).2 hi'
theorem zipP_set : ∀ {bs : List Nat} {T : List (List Int)} {i : Nat} (r : List Int), bs.length = T.length → bs.Nodup → i < bs.length → pinSet (zipP bs T) (bs.getD i 0) (r.map encI) = zipP bs (T.set i r)
  | [], _, _, _, _, _, h => by simp at h
  | c :: bs, [], _, _, hl, _, _ => by simp at hl
  | c :: bs, q :: T, 0, r, hl, hn, _ => by simp [zipP, pinSet]
  | c :: bs, q :: T, i + 1, r, hl, hn, hi => by
    have hi' : i < bs.length := by simpa using hi
    have hm : bs.getD i 0 ∈ bs := by simp [List.getD, hi']
    have hne : (c == bs.getD i 0) = false := by
      rw [beq_eq_false_iff_ne]
      intro e
      exact (List.nodup_cons.1 hn).1 (by rw [e]; exact hm)
    simp only [zipP, pinSet, List.getD_cons_succ, hne, cond_false, List.set_cons_succ]
    rw [zipP_set r (by simpa using hl) (List.nodup_cons.1 hn).2 hi']
/-- A row, from a column on. -/
def okPart (la lb i j0 : Nat) (r : List Int) : Prop := r.length = lb + 1 ∧ (∀ j, j0 ≤ j → j ≤ lb → 0 ≤ r.getD j 0 ∧ r.getD j 0 ≤ ((la - i : Nat) : Int) + ((lb - j : Nat) : Int)) ∧ (j0 ≤ lb → r.getD lb 0 = ((la - i : Nat) : Int))
theorem okPart_store {la lb i j : Nat} {r : List Int} {v : Int} (h : okPart la lb i (j + 1) r) (hj : j ≤ lb) (h0 : 0 ≤ v) (h1 : v ≤ ((la - i : Nat) : Int) + ((lb - j : Nat) : Int)) (h2 : j = lb → v = ((la - i : Nat) : Int)) : okPart la lb i j (r.set j v) := by
  obtain ⟨q1, q2, q3⟩ := h
  have hg : ∀ k, (r.set j v).getD k 0 = if k = j then v else r.getD k 0 := by
    intro k
    by_cases hk : k = j
    · subst hk
      simp [List.getD, show k < r.length by omega]
    · rw [if_neg hk]
      simp [List.getD, List.getElem?_set_ne (fun e => hk e.symm)]
  refine ⟨by simp [q1], fun k hk1 hk2 => ?_, fun _ => ?_⟩
  · rw [hg]
    by_cases hk : k = j
    · subst hk
      rw [if_pos rfl]
      exact ⟨h0, h1⟩
    · rw [if_neg hk]
      exact q2 k (by omega) hk2
  · rw [hg]
    by_cases hk : lb = j
    · rw [if_pos hk]
      exact h2 hk.symm
    · rw [if_neg hk]
      exact q3 (by omega)
def okTab (la lb : Nat) (T : List (List Int)) : Prop := T.length = la + 1 ∧ ∀ i, i ≤ la → okPart la lb i 0 (T.getD i [])
def iTab (T : List (List Int)) : TV := .iv (.sl 1 (T.map fun r => .sl 1 (r.map encI)))
theorem unpin_zip {n : Nat} : ∀ {bs : List Nat} {T : List (List Int)} {rs : List (Nat × List IV)}, bs.length = T.length → (∀ r ∈ T, r.length = n) → (∀ x ∈ zipP bs T, x ∈ rs) → unpinL rs (bs.map (slB n)) (T.map fun r => .sl 1 (r.map encI))
  | [], [], _, _, _, _ => trivial
  | [], _ :: _, _, h, _, _ => by simp at h
  | _ :: _, [], _, h, _, _ => by simp at h
  | b :: bs, r :: T, rs, hl, hn, hm => by
    refine ⟨⟨b, r.map encI, hm _ (by simp [zipP]), ?_, rfl, fun z hz => ?_⟩, unpin_zip (by simpa using hl) (fun q hq => hn q (List.mem_cons_of_mem _ hq)) (fun x hx => hm x (by simp [zipP, hx]))⟩
    · rw [List.length_map, hn r (List.mem_cons_self ..)]
      rfl
    · obtain ⟨x, _, rfl⟩ := List.mem_map.1 hz
      rfl
theorem one_slice (A : Option Addr) (n c : Nat) : ((Value.slice A n c).oneCell' = true) = True := by simp [Value.oneCell']
theorem row_mem {T : List (List Int)} {i : Nat} (h : i < T.length) : T.getD i [] ∈ T := by simp [List.getD, h]
theorem slB_get {bs : List Nat} {n i : Nat} (h : i < bs.length) : (bs.map (slB n)).getD i .any = .lit (.slice (some ⟨bs.getD i 0, 0, none⟩) n n) := by simp [List.getD, h, slB]
theorem ref07_Table (a b : List Int) (ha : a.length ≤ 400) (hb : b.length ≤ 400) : PC Try.prog 51 [iN a, iN b] [] 0 2 (fun t obs => (∃ T, okTab a.length b.length T ∧ t = iTab T) ∧ obs = []) := by
  have hz : List.replicate (b.length + 1) (IV.lit (.int .i64 0)) = (List.replicate (b.length + 1) (0 : Int)).map encI := by simp [encI]
  refine PC.body [4] Try.func51 rfl (by rfl) (Nat.le_of_ble_eq_true (by rfl)) rfl ?_; simp only [enumA]
  ((repeat refine PWp.seq ?_); refine PWp.region TT (by rfl) (fun K hK => ?_); simp only [push_cast, seval, Nat.reduceEqDiff, Nat.reduceLeDiff, reduceCtorEq]; (repeat refine sk ?_); refine hK _ ?_; clear hK K)
  ((repeat refine PWp.seq ?_); refine PWp.region TT (by rfl) (fun K hK => ?_); simp only [push_cast, seval, Nat.reduceEqDiff, Nat.reduceLeDiff, reduceCtorEq]; (repeat refine sk ?_); refine hK _ ?_; clear hK K)
  refine PWp.gh (Gh.pins0 3) ?_
  ((repeat refine PWp.seq ?_); refine PWp.region TT (by rfl) (fun K hK => ?_); simp only [push_cast, seval, Nat.reduceEqDiff, Nat.reduceLeDiff, reduceCtorEq]; (repeat refine sk ?_); refine hK _ ?_; clear hK K)
  ((repeat refine PWp.seq ?_); refine PWp.block ?_)
  refine PWp.loop (fun c st => ∃ (k : Nat) (bs : List Nat) (T : List (List Int)), c = a.length + 1 - k ∧ k ≤ a.length + 1 ∧ bs.length = k ∧ T.length = k ∧ bs.Nodup ∧ (∀ r ∈ T, r.length = b.length + 1) ∧
    st = ⟨[(0, iN a), (1, iN b), (5, .acc 0 1 (bs.map (slB (b.length + 1)))), (6, iI k)], [(1, .pins 3 (zipP bs T)), (0, .row 84 1)], 2⟩) _ _ ⟨0, [], [], rfl, Nat.zero_le _, rfl, rfl, List.nodup_nil, by simp, rfl⟩ (Gh.le (by simp [push_cast, -List.getD_eq_getElem?_getD, zipP]) (by simp)) ?_
  rintro c st ⟨k, bs, T, rfl, hk, hbl, hTl, hnd, hrl, rfl⟩
  ((repeat refine PWp.seq ?_); refine PWp.region TT (by rfl) (fun K hK => ?_); simp only [push_cast, seval, Nat.reduceEqDiff, Nat.reduceLeDiff, reduceCtorEq]; (repeat refine sk ?_); refine hK _ ?_; clear hK K)
  ((repeat refine PWp.seq ?_); refine PWp.cond (by simp only [push_cast, seval, Nat.reduceEqDiff, Nat.reduceLeDiff, reduceCtorEq]; rfl) (fun hc => ?_) (fun hc => ?_))
  · have hlt : k ≤ a.length := by simp at hc; omega
    clear hc
    ((repeat refine PWp.seq ?_); refine PWp.skip ?_)
    ((repeat refine PWp.seq ?_); refine PWp.block ?_)
    have hn1 : ((b.length : Int) + 1).toNat = b.length + 1 := by omega
    ((repeat refine PWp.seq ?_); refine PWp.region TT (by rfl) (fun K hK => ?_); simp only [push_cast, seval, Nat.reduceEqDiff, Nat.reduceLeDiff, reduceCtorEq, wrap64_id (n := (b.length : Int) + 1) (by omega) (by omega), hn1, hz, List.length_replicate, one_slice])
    (repeat refine sk ?_)
    intro nb hnb
    have hzp := zipP_app bs T nb (List.replicate (b.length + 1) 0) (by omega)
    ((repeat refine sk ?_); refine hK _ ?_; clear hK K)
    ((repeat refine PWp.seq ?_); refine PWp.region TT (by rfl) (fun K hK => ?_); simp only [push_cast, seval, Nat.reduceEqDiff, Nat.reduceLeDiff, reduceCtorEq, wrap64_id (n := (k : Int) + 1) (by omega) (by omega)]; (repeat refine sk ?_); refine hK _ ?_; clear hK K)
    refine ⟨_, _, ?_, ⟨k + 1, bs ++ [nb], T ++ [List.replicate (b.length + 1) 0], rfl, by omega, by simp [hbl], by simp [hTl], ?_, ?_, rfl⟩, Gh.leR [0, 3] (by simp [push_cast, -List.getD_eq_getElem?_getD, slB, hzp]; try decide)⟩
    · omega
    · rw [List.nodup_append]
      refine ⟨hnd, by simp, fun x hx y hy => ?_⟩
      simp only [List.mem_singleton] at hy
      subst hy
      intro e
      subst e
      obtain ⟨ys, hy⟩ := zipP_mem (T := T) (by omega) hx
      exact hnb ys hy
    · intro r hr
      rcases List.mem_append.1 hr with hr | hr
      · exact hrl r hr
      · simp only [List.mem_singleton] at hr
        subst hr
        simp
  · have hk' : k = a.length + 1 := by simp at hc; omega
    subst hk'
    clear hc
    (repeat refine PWp.seq ?_); refine PWp.exit (iteT rfl ?_)
    ((repeat refine PWp.seq ?_); refine PWp.region TT (by rfl) (fun K hK => ?_); simp only [push_cast, seval, Nat.reduceEqDiff, Nat.reduceLeDiff, reduceCtorEq]; (repeat refine sk ?_); refine hK _ ?_; clear hK K)
    ((repeat refine PWp.seq ?_); refine PWp.block ?_)
    refine PWp.loop (fun c st => ∃ (T : List (List Int)), c ≤ a.length + 1 ∧ T.length = a.length + 1 ∧ (∀ r ∈ T, r.length = b.length + 1) ∧ (∀ i, c ≤ i → i ≤ a.length → okPart a.length b.length i 0 (T.getD i [])) ∧
      st = ⟨[(0, iN a), (1, iN b), (5, .acc 0 1 (bs.map (slB (b.length + 1)))), (7, iI ((c : Int) - 1))], [(1, .pins 3 (zipP bs T)), (0, .row 84 1)], 2⟩) _ _ ⟨T, Nat.le_refl _, by omega, hrl, fun i h1 h2 => by omega, rfl⟩ (Gh.le (by simp [push_cast, -List.getD_eq_getElem?_getD]) (by simp)) ?_
    clear hrl hTl
    rintro c st ⟨T, hcl, hTl, hrl, hok, rfl⟩
    ((repeat refine PWp.seq ?_); refine PWp.region TT (by rfl) (fun K hK => ?_); simp only [push_cast, seval, Nat.reduceEqDiff, Nat.reduceLeDiff, reduceCtorEq]; (repeat refine sk ?_); refine hK _ ?_; clear hK K)
    ((repeat refine PWp.seq ?_); refine PWp.cond (by simp only [push_cast, seval, Nat.reduceEqDiff, Nat.reduceLeDiff, reduceCtorEq]; rfl) (fun hc => ?_) (fun hc => ?_))
    · have hc0 : 0 < c := by simp at hc; omega
      clear hc
      obtain ⟨i, rfl⟩ : ∃ i, c = i + 1 := ⟨c - 1, by omega⟩
      ((repeat refine PWp.seq ?_); refine PWp.skip ?_)
      ((repeat refine PWp.seq ?_); refine PWp.block ?_)
      ((repeat refine PWp.seq ?_); refine PWp.region TT (by rfl) (fun K hK => ?_); simp only [push_cast, seval, Nat.reduceEqDiff, Nat.reduceLeDiff, reduceCtorEq]; (repeat refine sk ?_); refine hK _ ?_; clear hK K)
      ((repeat refine PWp.seq ?_); refine PWp.block ?_)
      refine PWp.loop (fun c st => ∃ (T : List (List Int)), c ≤ b.length + 1 ∧ T.length = a.length + 1 ∧ (∀ r ∈ T, r.length = b.length + 1) ∧ (∀ i', i + 1 ≤ i' → i' ≤ a.length → okPart a.length b.length i' 0 (T.getD i' [])) ∧ okPart a.length b.length i c (T.getD i []) ∧
        st = ⟨[(0, iN a), (1, iN b), (5, .acc 0 1 (bs.map (slB (b.length + 1)))), (7, iI (i : Int)), (8, iI ((c : Int) - 1))], [(1, .pins 3 (zipP bs T)), (0, .row 84 1)], 2⟩) _ _ ⟨T, Nat.le_refl _, hTl, hrl, hok, ⟨hrl _ (row_mem (by omega)), fun j h1 h2 => by omega, fun h => by omega⟩, rfl⟩ (Gh.le (by simp [push_cast, -List.getD_eq_getElem?_getD]) (by simp)) ?_
      clear hrl hTl hok
      rintro c st ⟨T, hcj, hTl, hrl, hok, hp, rfl⟩
      ((repeat refine PWp.seq ?_); refine PWp.region TT (by rfl) (fun K hK => ?_); simp only [push_cast, seval, Nat.reduceEqDiff, Nat.reduceLeDiff, reduceCtorEq]; (repeat refine sk ?_); refine hK _ ?_; clear hK K)
      ((repeat refine PWp.seq ?_); refine PWp.cond (by simp only [push_cast, seval, Nat.reduceEqDiff, Nat.reduceLeDiff, reduceCtorEq]; rfl) (fun hc => ?_) (fun hc => ?_))
      · have hc0 : 0 < c := by simp at hc; omega
        clear hc
        obtain ⟨j, rfl⟩ : ∃ j, c = j + 1 := ⟨c - 1, by omega⟩
        have hjl : j ≤ b.length := by omega
        have hil : i ≤ a.length := by omega
        have hpa := zipP_at (T := T) (i := i) (by omega) hnd (by omega)
        have hLi : (bs.map (slB (b.length + 1))).getD i .any = .lit (.slice (some ⟨bs.getD i 0, 0, none⟩) (b.length + 1) (b.length + 1)) := slB_get (by omega)
        have hps : ∀ v : Int, pinSet (zipP bs T) (bs.getD i 0) (((T.getD i []).map encI).set j (.lit (.int .i64 v))) = zipP bs (T.set i ((T.getD i []).set j v)) := fun v => by
          rw [← zipP_set ((T.getD i []).set j v) (by omega) hnd (by omega), List.map_set]
          rfl
        have hgs : ∀ r : List Int, (T.set i r).getD i [] = r := fun r => by simp [List.getD, show i < T.length by omega]
        have hrowl : ((T.getD i []).map encI).length = b.length + 1 := by rw [List.length_map]; exact hp.1
        have hlens : ∀ v : Int, ∀ r ∈ T.set i ((T.getD i []).set j v), r.length = b.length + 1 := fun v r hr => by
          rcases List.mem_or_eq_of_mem_set hr with hr | rfl
          · exact hrl r hr
          · rw [List.length_set]; exact hp.1
        have hrest : ∀ v : Int, ∀ i', i + 1 ≤ i' → i' ≤ a.length → okPart a.length b.length i' 0 ((T.set i ((T.getD i []).set j v)).getD i' []) := fun v i' h1 h2 => by
          have : (T.set i ((T.getD i []).set j v)).getD i' [] = T.getD i' [] := by simp [List.getD, List.getElem?_set_ne (show i ≠ i' by omega)]
          rw [this]
          exact hok i' h1 h2
        ((repeat refine PWp.seq ?_); refine PWp.skip ?_)
        ((repeat refine PWp.seq ?_); refine PWp.block ?_)
        ((repeat refine PWp.seq ?_); refine PWp.region TT (by rfl) (fun K hK => ?_); simp only [push_cast, seval, Nat.reduceEqDiff, Nat.reduceLeDiff, reduceCtorEq]; (repeat refine sk ?_); refine hK _ ?_; clear hK K)
        ((repeat refine PWp.seq ?_); refine PWp.cond (by simp only [push_cast, seval, Nat.reduceEqDiff, Nat.reduceLeDiff, reduceCtorEq]; rfl) (fun hc => ?_) (fun hc => ?_))
        · have hi : i = a.length := by simp at hc; omega
          clear hc
          ((repeat refine PWp.seq ?_); refine PWp.region TT (by rfl) (fun K hK => ?_); simp only [push_cast, seval, Nat.reduceEqDiff, Nat.reduceLeDiff, reduceCtorEq, hLi, hpa, hrowl, Int.add_sub_cancel, wrap64_id (n := (b.length : Int) - (j : Int)) (by omega) (by omega)]; (repeat refine sk ?_); refine hK _ ?_; clear hK K)
          ((repeat refine PWp.seq ?_); refine PWp.region TT (by rfl) (fun K hK => ?_); simp only [push_cast, seval, Nat.reduceEqDiff, Nat.reduceLeDiff, reduceCtorEq, Int.add_sub_cancel, wrap64_id (n := (j : Int) - 1) (by omega) (by omega)]; (repeat refine sk ?_); refine hK _ ?_; clear hK K)
          refine ⟨j, _, ?_, ⟨T.set i ((T.getD i []).set j ((b.length : Int) - (j : Int))), by omega, by rw [List.length_set]; exact hTl, hlens _, hrest _, ?_, rfl⟩, Gh.le (by simp [push_cast, -List.getD_eq_getElem?_getD, hps]) (by simp)⟩
          · omega
          · rw [hgs]
            exact okPart_store hp hjl (by omega) (by omega) (by omega)
        · have hne : i ≠ a.length := by simp at hc; omega
          clear hc
          have hia : i < a.length := by omega
          ((repeat refine PWp.seq ?_); refine PWp.region TT (by rfl) (fun K hK => ?_); simp only [push_cast, seval, Nat.reduceEqDiff, Nat.reduceLeDiff, reduceCtorEq]; (repeat refine sk ?_); refine hK _ ?_; clear hK K)
          ((repeat refine PWp.seq ?_); refine PWp.cond (by simp only [push_cast, seval, Nat.reduceEqDiff, Nat.reduceLeDiff, reduceCtorEq]; rfl) (fun hc => ?_) (fun hc => ?_))
          · have hj : j = b.length := by simp at hc; omega
            clear hc
            ((repeat refine PWp.seq ?_); refine PWp.region TT (by rfl) (fun K hK => ?_); simp only [push_cast, seval, Nat.reduceEqDiff, Nat.reduceLeDiff, reduceCtorEq, hLi, hpa, hrowl, Int.add_sub_cancel, wrap64_id (n := (a.length : Int) - (i : Int)) (by omega) (by omega)]; (repeat refine sk ?_); refine hK _ ?_; clear hK K)
            ((repeat refine PWp.seq ?_); refine PWp.region TT (by rfl) (fun K hK => ?_); simp only [push_cast, seval, Nat.reduceEqDiff, Nat.reduceLeDiff, reduceCtorEq, Int.add_sub_cancel, wrap64_id (n := (j : Int) - 1) (by omega) (by omega)]; (repeat refine sk ?_); refine hK _ ?_; clear hK K)
            refine ⟨j, _, ?_, ⟨T.set i ((T.getD i []).set j ((a.length : Int) - (i : Int))), by omega, by rw [List.length_set]; exact hTl, hlens _, hrest _, ?_, rfl⟩, Gh.le (by simp [push_cast, -List.getD_eq_getElem?_getD, hps]) (by simp)⟩
            · omega
            · rw [hgs]
              exact okPart_store hp hjl (by omega) (by omega) (by omega)
          · have hnj : j ≠ b.length := by simp at hc; omega
            clear hc
            have hjb : j < b.length := by omega
            have hok1 := hok (i + 1) (Nat.le_refl _) (by omega)
            have hpa1 := zipP_at (T := T) (i := i + 1) (by omega) hnd (by omega)
            have hLi1 : (bs.map (slB (b.length + 1))).getD (i + 1) .any = .lit (.slice (some ⟨bs.getD (i + 1) 0, 0, none⟩) (b.length + 1) (b.length + 1)) := slB_get (by omega)
            have hrowl1 : ((T.getD (i + 1) []).map encI).length = b.length + 1 := by rw [List.length_map]; exact hok1.1
            have t1 : ((i : Int) + 1).toNat = i + 1 := by omega
            have t2 : ((j : Int) + 1).toNat = j + 1 := by omega
            have v11 : ((T.getD (i + 1) []).map encI).getD (j + 1) .any = .lit (.int .i64 ((T.getD (i + 1) []).getD (j + 1) 0)) := getD_map (show j + 1 < (T.getD (i + 1) []).length by have := hok1.1; omega)
            have v10 : ((T.getD (i + 1) []).map encI).getD j .any = .lit (.int .i64 ((T.getD (i + 1) []).getD j 0)) := getD_map (show j < (T.getD (i + 1) []).length by have := hok1.1; omega)
            have v01 : ((T.getD i []).map encI).getD (j + 1) .any = .lit (.int .i64 ((T.getD i []).getD (j + 1) 0)) := getD_map (show j + 1 < (T.getD i []).length by have := hp.1; omega)
            have b11 := hok1.2.1 (j + 1) (by omega) (by omega)
            have b10 := hok1.2.1 j (by omega) (by omega)
            have b01 := hp.2.1 (j + 1) (by omega) (by omega)
            generalize hx11 : (T.getD (i + 1) []).getD (j + 1) 0 = x11 at *
            generalize hx10 : (T.getD (i + 1) []).getD j 0 = x10 at *
            generalize hx01 : (T.getD i []).getD (j + 1) 0 = x01 at *
            ((repeat refine PWp.seq ?_); refine PWp.draw TT (by kernel_rfl) (by kernel_rfl) (by rfl) (by rfl) (fun K hK => ?_); simp only [push_cast, seval, Nat.reduceEqDiff, Nat.reduceLeDiff, reduceCtorEq, Int.add_sub_cancel, getD_map hia, getD_map hjb]; (repeat refine sk ?_); refine hK _ ?_; clear hK K)
            ((repeat refine PWp.seq ?_); refine PWp.cond (by simp only [push_cast, seval, Nat.reduceEqDiff, Nat.reduceLeDiff, reduceCtorEq]; rfl) (fun hc => ?_) (fun hc => ?_))
            · clear hc
              ((repeat refine PWp.seq ?_); refine PWp.drawT TT (by kernel_rfl) [] (.q 0 (.q 1 (.q 2 (.q 3 (.q 4 (.q 5 (.q 6 (.q 7 (.q 8 (.q 9 (.q 10 (.q 11 (.q 12 (.x 13 (.q 14 (.x 15 .nil)))))))))))))))) (by rfl) (by kernel_rfl) (by rfl) (by simp) (fun K hK => ?_); simp only [push_cast, seval, Nat.reduceEqDiff, Nat.reduceLeDiff, reduceCtorEq, Int.add_sub_cancel, hLi, hLi1, hpa, hpa1, hrowl, hrowl1, t1, t2, v11, wrap64_id (n := (i : Int) + 1) (by omega) (by omega), wrap64_id (n := (j : Int) + 1) (by omega) (by omega)]; (repeat refine sk ?_); refine hK _ ?_; clear hK K)
              ((repeat refine PWp.seq ?_); refine PWp.region TT (by rfl) (fun K hK => ?_); simp only [push_cast, seval, Nat.reduceEqDiff, Nat.reduceLeDiff, reduceCtorEq, Int.add_sub_cancel, wrap64_id (n := (j : Int) - 1) (by omega) (by omega)]; (repeat refine sk ?_); refine hK _ ?_; clear hK K)
              refine ⟨j, _, ?_, ⟨T.set i ((T.getD i []).set j (x11)), by omega, by rw [List.length_set]; exact hTl, hlens _, hrest _, ?_, rfl⟩, Gh.le (by simp [push_cast, -List.getD_eq_getElem?_getD, hps]) (by simp)⟩
              · omega
              · rw [hgs]
                exact okPart_store hp hjl (by omega) (by omega) (by omega)
            · clear hc
              ((repeat refine PWp.seq ?_); refine PWp.drawT TT (by kernel_rfl) [] (.q 0 (.q 1 (.q 2 (.q 3 (.q 4 (.q 5 (.q 6 (.q 8 (.q 9 (.q 10 (.q 11 (.q 12 (.q 13 (.q 14 (.alt 7 (.x 15 (.q 16 .nil)) (.x 15 (.x 7 (.q 16 .nil)))))))))))))))))) (by rfl) (by kernel_rfl) (by rfl) (by simp) (fun K hK => ?_); simp only [push_cast, seval, Nat.reduceEqDiff, Nat.reduceLeDiff, reduceCtorEq, Int.add_sub_cancel, hLi, hLi1, hpa, hpa1, hrowl, hrowl1, t1, t2, v10, v01, wrap64_id (n := (i : Int) + 1) (by omega) (by omega), wrap64_id (n := (j : Int) + 1) (by omega) (by omega)])
              (repeat refine sk ?_)
              refine ⟨?_, ?_⟩
              · ((repeat refine sk ?_); refine hK _ ?_; clear hK K)
                ((repeat refine PWp.seq ?_); refine PWp.cond (by simp only [push_cast, seval, Nat.reduceEqDiff, Nat.reduceLeDiff, reduceCtorEq]; rfl) (fun hc => ?_) (fun hc => ?_))
                · simp only [Bool.or_eq_true, Bool.and_eq_true, Bool.not_eq_true', Bool.not_eq_false', Bool.or_eq_false_iff, Bool.and_eq_false_iff, decide_eq_true_eq, decide_eq_false_iff_not, beq_iff_eq, beq_eq_false_iff_ne, bne_iff_ne, bne_eq_false_iff_eq, ne_eq, Classical.not_not, Int.not_lt, Int.not_le, ge_iff_le, gt_iff_lt] at hc
                  ((repeat refine PWp.seq ?_); refine PWp.drawT TT (by kernel_rfl) [] (.q 0 (.q 1 (.q 2 (.q 3 (.q 4 (.q 5 (.q 6 (.q 7 (.q 8 (.q 9 (.q 10 (.q 11 (.x 12 (.q 13 (.q 14 (.x 15 .nil)))))))))))))))) (by rfl) (by kernel_rfl) (by rfl) (by simp) (fun K hK => ?_); simp only [push_cast, seval, Nat.reduceEqDiff, Nat.reduceLeDiff, reduceCtorEq, Int.add_sub_cancel, hLi, hLi1, hpa, hpa1, hrowl, hrowl1, t1, t2, v10, wrap64_id (n := (i : Int) + 1) (by omega) (by omega), wrap64_id (n := (j : Int) + 1) (by omega) (by omega), wrap64_id (n := x10 + 1) (by omega) (by omega)]; (repeat refine sk ?_); refine hK _ ?_; clear hK K)
                  ((repeat refine PWp.seq ?_); refine PWp.region TT (by rfl) (fun K hK => ?_); simp only [push_cast, seval, Nat.reduceEqDiff, Nat.reduceLeDiff, reduceCtorEq, Int.add_sub_cancel, wrap64_id (n := (j : Int) - 1) (by omega) (by omega)]; (repeat refine sk ?_); refine hK _ ?_; clear hK K)
                  refine ⟨j, _, ?_, ⟨T.set i ((T.getD i []).set j (x10 + 1)), by omega, by rw [List.length_set]; exact hTl, hlens _, hrest _, ?_, rfl⟩, Gh.le (by simp [push_cast, -List.getD_eq_getElem?_getD, hps]) (by simp)⟩
                  · omega
                  · rw [hgs]
                    exact okPart_store hp hjl (by omega) (by omega) (by omega)
                · simp only [Bool.or_eq_true, Bool.and_eq_true, Bool.not_eq_true', Bool.not_eq_false', Bool.or_eq_false_iff, Bool.and_eq_false_iff, decide_eq_true_eq, decide_eq_false_iff_not, beq_iff_eq, beq_eq_false_iff_ne, bne_iff_ne, bne_eq_false_iff_eq, ne_eq, Classical.not_not, Int.not_lt, Int.not_le, ge_iff_le, gt_iff_lt] at hc
                  ((repeat refine PWp.seq ?_); refine PWp.drawT TT (by kernel_rfl) [] (.q 0 (.q 1 (.q 2 (.q 3 (.q 4 (.q 5 (.q 6 (.q 7 (.q 8 (.q 9 (.q 10 (.q 11 (.x 12 (.q 13 (.q 14 (.x 15 .nil)))))))))))))))) (by rfl) (by kernel_rfl) (by rfl) (by simp) (fun K hK => ?_); simp only [push_cast, seval, Nat.reduceEqDiff, Nat.reduceLeDiff, reduceCtorEq, Int.add_sub_cancel, hLi, hLi1, hpa, hpa1, hrowl, hrowl1, t1, t2, v01, wrap64_id (n := (i : Int) + 1) (by omega) (by omega), wrap64_id (n := (j : Int) + 1) (by omega) (by omega), wrap64_id (n := x01 + 1) (by omega) (by omega)]; (repeat refine sk ?_); refine hK _ ?_; clear hK K)
                  ((repeat refine PWp.seq ?_); refine PWp.region TT (by rfl) (fun K hK => ?_); simp only [push_cast, seval, Nat.reduceEqDiff, Nat.reduceLeDiff, reduceCtorEq, Int.add_sub_cancel, wrap64_id (n := (j : Int) - 1) (by omega) (by omega)]; (repeat refine sk ?_); refine hK _ ?_; clear hK K)
                  refine ⟨j, _, ?_, ⟨T.set i ((T.getD i []).set j (x01 + 1)), by omega, by rw [List.length_set]; exact hTl, hlens _, hrest _, ?_, rfl⟩, Gh.le (by simp [push_cast, -List.getD_eq_getElem?_getD, hps]) (by simp)⟩
                  · omega
                  · rw [hgs]
                    exact okPart_store hp hjl (by omega) (by omega) (by omega)
              · ((repeat refine sk ?_); refine hK _ ?_; clear hK K)
                ((repeat refine PWp.seq ?_); refine PWp.cond (by simp only [push_cast, seval, Nat.reduceEqDiff, Nat.reduceLeDiff, reduceCtorEq]; rfl) (fun hc => ?_) (fun hc => ?_))
                · simp only [Bool.or_eq_true, Bool.and_eq_true, Bool.not_eq_true', Bool.not_eq_false', Bool.or_eq_false_iff, Bool.and_eq_false_iff, decide_eq_true_eq, decide_eq_false_iff_not, beq_iff_eq, beq_eq_false_iff_ne, bne_iff_ne, bne_eq_false_iff_eq, ne_eq, Classical.not_not, Int.not_lt, Int.not_le, ge_iff_le, gt_iff_lt] at hc
                  ((repeat refine PWp.seq ?_); refine PWp.drawT TT (by kernel_rfl) [] (.q 0 (.q 1 (.q 2 (.q 3 (.q 4 (.q 5 (.q 6 (.q 7 (.q 8 (.q 9 (.q 10 (.q 11 (.x 12 (.q 13 (.q 14 (.x 15 .nil)))))))))))))))) (by rfl) (by kernel_rfl) (by rfl) (by simp) (fun K hK => ?_); simp only [push_cast, seval, Nat.reduceEqDiff, Nat.reduceLeDiff, reduceCtorEq, Int.add_sub_cancel, hLi, hLi1, hpa, hpa1, hrowl, hrowl1, t1, t2, v10, wrap64_id (n := (i : Int) + 1) (by omega) (by omega), wrap64_id (n := (j : Int) + 1) (by omega) (by omega), wrap64_id (n := x10 + 1) (by omega) (by omega)]; (repeat refine sk ?_); refine hK _ ?_; clear hK K)
                  ((repeat refine PWp.seq ?_); refine PWp.region TT (by rfl) (fun K hK => ?_); simp only [push_cast, seval, Nat.reduceEqDiff, Nat.reduceLeDiff, reduceCtorEq, Int.add_sub_cancel, wrap64_id (n := (j : Int) - 1) (by omega) (by omega)]; (repeat refine sk ?_); refine hK _ ?_; clear hK K)
                  refine ⟨j, _, ?_, ⟨T.set i ((T.getD i []).set j (x10 + 1)), by omega, by rw [List.length_set]; exact hTl, hlens _, hrest _, ?_, rfl⟩, Gh.le (by simp [push_cast, -List.getD_eq_getElem?_getD, hps]) (by simp)⟩
                  · omega
                  · rw [hgs]
                    exact okPart_store hp hjl (by omega) (by omega) (by omega)
                · simp only [Bool.or_eq_true, Bool.and_eq_true, Bool.not_eq_true', Bool.not_eq_false', Bool.or_eq_false_iff, Bool.and_eq_false_iff, decide_eq_true_eq, decide_eq_false_iff_not, beq_iff_eq, beq_eq_false_iff_ne, bne_iff_ne, bne_eq_false_iff_eq, ne_eq, Classical.not_not, Int.not_lt, Int.not_le, ge_iff_le, gt_iff_lt] at hc
                  ((repeat refine PWp.seq ?_); refine PWp.drawT TT (by kernel_rfl) [] (.q 0 (.q 1 (.q 2 (.q 3 (.q 4 (.q 5 (.q 6 (.q 7 (.q 8 (.q 9 (.q 10 (.q 11 (.x 12 (.q 13 (.q 14 (.x 15 .nil)))))))))))))))) (by rfl) (by kernel_rfl) (by rfl) (by simp) (fun K hK => ?_); simp only [push_cast, seval, Nat.reduceEqDiff, Nat.reduceLeDiff, reduceCtorEq, Int.add_sub_cancel, hLi, hLi1, hpa, hpa1, hrowl, hrowl1, t1, t2, v01, wrap64_id (n := (i : Int) + 1) (by omega) (by omega), wrap64_id (n := (j : Int) + 1) (by omega) (by omega), wrap64_id (n := x01 + 1) (by omega) (by omega)]; (repeat refine sk ?_); refine hK _ ?_; clear hK K)
                  ((repeat refine PWp.seq ?_); refine PWp.region TT (by rfl) (fun K hK => ?_); simp only [push_cast, seval, Nat.reduceEqDiff, Nat.reduceLeDiff, reduceCtorEq, Int.add_sub_cancel, wrap64_id (n := (j : Int) - 1) (by omega) (by omega)]; (repeat refine sk ?_); refine hK _ ?_; clear hK K)
                  refine ⟨j, _, ?_, ⟨T.set i ((T.getD i []).set j (x01 + 1)), by omega, by rw [List.length_set]; exact hTl, hlens _, hrest _, ?_, rfl⟩, Gh.le (by simp [push_cast, -List.getD_eq_getElem?_getD, hps]) (by simp)⟩
                  · omega
                  · rw [hgs]
                    exact okPart_store hp hjl (by omega) (by omega) (by omega)
      · have hj0 : c = 0 := by simp at hc; omega
        subst hj0
        clear hc
        (repeat refine PWp.seq ?_); refine PWp.exit (iteT rfl ?_)
        ((repeat refine PWp.seq ?_); refine PWp.region TT (by rfl) (fun K hK => ?_); simp only [push_cast, seval, Nat.reduceEqDiff, Nat.reduceLeDiff, reduceCtorEq, wrap64_id (n := (i : Int) - 1) (by omega) (by omega)]; (repeat refine sk ?_); refine hK _ ?_; clear hK K)
        refine ⟨i, _, ?_, ⟨T, by omega, hTl, hrl, fun i' h1 h2 => ?_, rfl⟩, Gh.le (by simp [push_cast, -List.getD_eq_getElem?_getD]) (by simp)⟩
        · omega
        · by_cases e : i' = i
          · subst e; exact hp
          · exact hok i' (by omega) h2
    · have hc0 : c = 0 := by simp at hc; omega
      subst hc0
      clear hc
      (repeat refine PWp.seq ?_); refine PWp.exit (iteT rfl ?_)
      refine PWp.gh (Gh.unpin 5 1 (e := 3) (rs := zipP bs T) (L := bs.map (slB (b.length + 1))) (L' := T.map fun r => .sl 1 (r.map encI)) (by rfl) (by rfl) (unpin_zip (by omega) hrl (fun x hx => hx))) ?_
      ((repeat refine PWp.seq ?_); refine PWp.region TT (by rfl) (fun K hK => ?_); simp only [push_cast, seval, Nat.reduceEqDiff, Nat.reduceLeDiff, reduceCtorEq]; (repeat refine sk ?_); refine hK _ ?_; clear hK K)
      ((repeat refine PWp.seq ?_); refine PWp.ret ?_)
      refine ⟨.inr rfl, by omega, _, [], ?_, ⟨T, ⟨hTl, fun i hi => hok i (Nat.zero_le _) hi⟩, rfl⟩, rfl⟩
      unfold iTab
      (simp [push_cast, -List.getD_eq_getElem?_getD])
end Go.Proofs.Ytmocgjimlhgejaa
namespace Go.Proofs.Ytmocgjimlhgejaa
open Go.PL
set_option maxRecDepth 100000
set_option linter.unusedSimpArgs false
set_option linter.unusedVariables false
/-- Steps that lead from one place to another one. -/
def okS (a b : List Int) : Nat → Nat → List Int → Nat → Nat → Prop
  | i, j, [], i', j' => i = i' ∧ j = j'
  | i, j, x :: S, i', j' => (x = 1 ∧ i < a.length ∧ j < b.length ∧ a.getD i 0 = b.getD j 0 ∧ okS a b (i + 1) (j + 1) S i' j') ∨ (x = 2 ∧ i < a.length ∧ okS a b (i + 1) j S i' j') ∨ (x = 3 ∧ j < b.length ∧ okS a b i (j + 1) S i' j')
theorem okS_app (a b : List Int) : ∀ (S : List Int) (i j i' j' : Nat) (x : Int) (i'' j'' : Nat), okS a b i j S i' j' → okS a b i' j' [x] i'' j'' → okS a b i j (S ++ [x]) i'' j''
  | [], i, j, i', j', x, i'', j'', h, h2 => by obtain ⟨rfl, rfl⟩ := h; exact h2
  | y :: S, i, j, i', j', x, i'', j'', h, h2 => by
    rcases h with ⟨e, h1, h2', h3, h4⟩ | ⟨e, h1, h4⟩ | ⟨e, h1, h4⟩
    · exact .inl ⟨e, h1, h2', h3, okS_app a b S _ _ _ _ x _ _ h4 h2⟩
    · exact .inr (.inl ⟨e, h1, okS_app a b S _ _ _ _ x _ _ h4 h2⟩)
    · exact .inr (.inr ⟨e, h1, okS_app a b S _ _ _ _ x _ _ h4 h2⟩)
theorem okS_le (a b : List Int) : ∀ (S : List Int) (i j i' j' : Nat), okS a b i j S i' j' → i ≤ i' ∧ j ≤ j'
  | [], i, j, i', j', h => by obtain ⟨rfl, rfl⟩ := h; exact ⟨Nat.le_refl _, Nat.le_refl _⟩
  | y :: S, i, j, i', j', h => by
    rcases h with ⟨e, h1, h2', h3, h4⟩ | ⟨e, h1, h4⟩ | ⟨e, h1, h4⟩
    all_goals (have := okS_le a b S _ _ _ _ h4; omega)
theorem rows_get {T : List (List Int)} {i : Nat} (h : i < T.length) : (T.map fun r => IV.sl 1 (r.map encI)).getD i .any = .sl 1 ((T.getD i []).map encI) := by simp [List.getD, h]
theorem ref07_Steps (a b : List Int) (ha : a.length ≤ 400) (hb : b.length ≤ 400) : PC Try.prog 48 [iN a, iN b] [] 0 9 (fun t obs => (∃ S, okS a b 0 0 S a.length b.length ∧ S.length ≤ a.length + b.length ∧ t = .iv (.sl 1 (S.map encI))) ∧ obs = []) := by
  refine PC.body [4] Try.func48 rfl (by rfl) (Nat.le_of_ble_eq_true (by rfl)) rfl ?_; simp only [enumA]
  ((repeat refine PWp.seq ?_); refine PWp.region TT (by rfl) (fun K hK => ?_); simp only [push_cast, seval, Nat.reduceEqDiff, Nat.reduceLeDiff, reduceCtorEq]; (repeat refine sk ?_); refine hK _ ?_; clear hK K)
  ((repeat refine PWp.seq ?_); refine PWp.region TT (by rfl) (fun K hK => ?_); simp only [push_cast, seval, Nat.reduceEqDiff, Nat.reduceLeDiff, reduceCtorEq]; (repeat refine sk ?_); refine hK _ ?_; clear hK K)
  ((repeat refine PWp.seq ?_); refine PWp.region TT (by rfl) (fun K hK => ?_); simp only [push_cast, seval, Nat.reduceEqDiff, Nat.reduceLeDiff, reduceCtorEq]; (repeat refine sk ?_); refine hK _ ?_; clear hK K)
  ((repeat refine PWp.seq ?_); refine PWp.cond (by simp only [push_cast, seval, Nat.reduceEqDiff, Nat.reduceLeDiff, reduceCtorEq]; rfl) (fun hc => ?_) (fun hc => ?_))
  · exfalso
    simp at hc
    omega
  · clear hc
    ((repeat refine PWp.seq ?_); refine PWp.skip ?_)
    ((repeat refine PWp.seq ?_); refine PWp.region TT (by rfl) (fun K hK => ?_); simp only [push_cast, seval, Nat.reduceEqDiff, Nat.reduceLeDiff, reduceCtorEq])
    ((repeat refine sk ?_); refine PCall.use (ref07_Table a b ha hb) [] rfl (by simp [push_cast]) (by simp) (by simp [push_cast]) (by simp [push_cast]) (by simp [push_cast]) (by simp [push_cast]) ?_)
    rintro _ _ ⟨⟨T, hT, rfl⟩, rfl⟩
    obtain ⟨hTl, hTr⟩ := hT
    unfold iTab
    (simp only [push_cast, seval, Nat.reduceEqDiff, Nat.reduceLeDiff, reduceCtorEq]; (repeat refine sk ?_); refine hK _ ?_; clear hK K)
    ((repeat refine PWp.seq ?_); refine PWp.region TT (by rfl) (fun K hK => ?_); simp only [push_cast, seval, Nat.reduceEqDiff, Nat.reduceLeDiff, reduceCtorEq]; (repeat refine sk ?_); refine hK _ ?_; clear hK K)
    ((repeat refine PWp.seq ?_); refine PWp.region TT (by rfl) (fun K hK => ?_); simp only [push_cast, seval, Nat.reduceEqDiff, Nat.reduceLeDiff, reduceCtorEq]; (repeat refine sk ?_); refine hK _ ?_; clear hK K)
    ((repeat refine PWp.seq ?_); refine PWp.block ?_)
    refine PWp.loop (fun c st => ∃ (i j : Nat) (S : List Int), c = (a.length - i) + (b.length - j) ∧ i ≤ a.length ∧ j ≤ b.length ∧ S.length + ((a.length - i) + (b.length - j)) ≤ a.length + b.length ∧ okS a b 0 0 S i j ∧
      st = ⟨[(0, iN a), (1, iN b), (5, .acc 0 1 (S.map encI)), (6, .iv (.sl 1 (T.map fun r => .sl 1 (r.map encI)))), (7, iI i), (8, iI j)], [(0, .row 97 1)], 1⟩) _ _ ⟨0, 0, [], rfl, Nat.zero_le _, Nat.zero_le _, by simp, ⟨rfl, rfl⟩, rfl⟩ (Gh.le (by simp [push_cast, -List.getD_eq_getElem?_getD]) (by simp)) ?_
    rintro c st ⟨i, j, S, rfl, hi, hj, hSl, hS, rfl⟩
    ((repeat refine PWp.seq ?_); refine PWp.region TT (by rfl) (fun K hK => ?_); simp only [push_cast, seval, Nat.reduceEqDiff, Nat.reduceLeDiff, reduceCtorEq]; (repeat refine sk ?_); refine hK _ ?_; clear hK K)
    ((repeat refine PWp.seq ?_); refine PWp.cond (by simp only [push_cast, seval, Nat.reduceEqDiff, Nat.reduceLeDiff, reduceCtorEq]; rfl) (fun hc => ?_) (fun hc => ?_))
    · have hij : i < a.length ∨ j < b.length := by simp at hc; omega
      clear hc
      ((repeat refine PWp.seq ?_); refine PWp.skip ?_)
      ((repeat refine PWp.seq ?_); refine PWp.block ?_)
      by_cases hia : i < a.length
      · have hd1 : decide ((i : Int) < (a.length : Int)) = true := decide_eq_true (by omega)
        have r0 := hTr i (by omega)
        have r1 := hTr (i + 1) (by omega)
        have g0 : (T.map fun r => IV.sl 1 (r.map encI)).getD i .any = .sl 1 ((T.getD i []).map encI) := rows_get (by omega)
        have g1 : (T.map fun r => IV.sl 1 (r.map encI)).getD (i + 1) .any = .sl 1 ((T.getD (i + 1) []).map encI) := rows_get (by omega)
        have ti : ((i : Int) + 1).toNat = i + 1 := by omega
        have l0 := r0.1
        have l1 := r1.1
        have v0 : ((T.getD i []).map encI).getD j .any = .lit (.int .i64 ((T.getD i []).getD j 0)) := getD_map (show j < (T.getD i []).length by omega)
        have v1 : ((T.getD (i + 1) []).map encI).getD j .any = .lit (.int .i64 ((T.getD (i + 1) []).getD j 0)) := getD_map (show j < (T.getD (i + 1) []).length by omega)
        have b0 := r0.2.1 j (Nat.zero_le _) hj
        have b1 := r1.2.1 j (Nat.zero_le _) hj
        by_cases hjb : j < b.length
        · have hd2 : decide ((j : Int) < (b.length : Int)) = true := decide_eq_true (by omega)
          ((repeat refine PWp.seq ?_); refine PWp.draw TT (by kernel_rfl) (by kernel_rfl) (by rfl) (by rfl) (fun K hK => ?_); simp only [push_cast, seval, Nat.reduceEqDiff, Nat.reduceLeDiff, reduceCtorEq, hd1, hd2, getD_map hia, getD_map hjb]; (repeat refine sk ?_); refine hK _ ?_; clear hK K)
          ((repeat refine PWp.seq ?_); refine PWp.cond (by simp only [push_cast, seval, Nat.reduceEqDiff, Nat.reduceLeDiff, reduceCtorEq]; rfl) (fun hc => ?_) (fun hc => ?_))
          · have he : a.getD i 0 = b.getD j 0 := by simpa [encI] using hc
            ((repeat refine PWp.seq ?_); refine PWp.region TT (by rfl) (fun K hK => ?_); simp only [push_cast, seval, Nat.reduceEqDiff, Nat.reduceLeDiff, reduceCtorEq]; (repeat refine sk ?_); refine hK _ ?_; clear hK K)
            ((repeat refine PWp.seq ?_); refine PWp.region TT (by rfl) (fun K hK => ?_); simp only [push_cast, seval, Nat.reduceEqDiff, Nat.reduceLeDiff, reduceCtorEq, wrap64_id (n := (i : Int) + 1) (by omega) (by omega)]; (repeat refine sk ?_); refine hK _ ?_; clear hK K)
            ((repeat refine PWp.seq ?_); refine PWp.region TT (by rfl) (fun K hK => ?_); simp only [push_cast, seval, Nat.reduceEqDiff, Nat.reduceLeDiff, reduceCtorEq, wrap64_id (n := (j : Int) + 1) (by omega) (by omega)]; (repeat refine sk ?_); refine hK _ ?_; clear hK K)
            refine ⟨_, _, ?_, ⟨i + 1, j + 1, S ++ [1], rfl, by omega, by omega, by simp; omega, okS_app a b S 0 0 i j 1 _ _ hS (.inl ⟨rfl, hia, hjb, he, rfl, rfl⟩), rfl⟩, Gh.le (by simp [push_cast, -List.getD_eq_getElem?_getD]) (by simp)⟩
            omega
          · clear hc
            ((repeat refine PWp.seq ?_); refine PWp.draw TT (by kernel_rfl) (by kernel_rfl) (by rfl) (by rfl) (fun K hK => ?_); simp only [push_cast, seval, Nat.reduceEqDiff, Nat.reduceLeDiff, reduceCtorEq, hd1, g0, g1, ti, v0, v1, l0, l1, wrap64_id (n := (i : Int) + 1) (by omega) (by omega), wrap64_id (n := (T.getD (i + 1) []).getD j 0 + 1) (by omega) (by omega)]; (repeat refine sk ?_); refine hK _ ?_; clear hK K)
            ((repeat refine PWp.seq ?_); refine PWp.cond (by simp only [push_cast, seval, Nat.reduceEqDiff, Nat.reduceLeDiff, reduceCtorEq]; rfl) (fun hc => ?_) (fun hc => ?_))
            · clear hc
              ((repeat refine PWp.seq ?_); refine PWp.region TT (by rfl) (fun K hK => ?_); simp only [push_cast, seval, Nat.reduceEqDiff, Nat.reduceLeDiff, reduceCtorEq]; (repeat refine sk ?_); refine hK _ ?_; clear hK K)
              ((repeat refine PWp.seq ?_); refine PWp.region TT (by rfl) (fun K hK => ?_); simp only [push_cast, seval, Nat.reduceEqDiff, Nat.reduceLeDiff, reduceCtorEq, wrap64_id (n := (i : Int) + 1) (by omega) (by omega)]; (repeat refine sk ?_); refine hK _ ?_; clear hK K)
              refine ⟨_, _, ?_, ⟨i + 1, j, S ++ [2], rfl, by omega, hj, by simp; omega, okS_app a b S 0 0 i j 2 _ _ hS (.inr (.inl ⟨rfl, hia, rfl, rfl⟩)), rfl⟩, Gh.le (by simp [push_cast, -List.getD_eq_getElem?_getD]) (by simp)⟩
              omega
            · clear hc
              ((repeat refine PWp.seq ?_); refine PWp.region TT (by rfl) (fun K hK => ?_); simp only [push_cast, seval, Nat.reduceEqDiff, Nat.reduceLeDiff, reduceCtorEq]; (repeat refine sk ?_); refine hK _ ?_; clear hK K)
              ((repeat refine PWp.seq ?_); refine PWp.region TT (by rfl) (fun K hK => ?_); simp only [push_cast, seval, Nat.reduceEqDiff, Nat.reduceLeDiff, reduceCtorEq, wrap64_id (n := (j : Int) + 1) (by omega) (by omega)]; (repeat refine sk ?_); refine hK _ ?_; clear hK K)
              refine ⟨_, _, ?_, ⟨i, j + 1, S ++ [3], rfl, hi, by omega, by simp; omega, okS_app a b S 0 0 i j 3 _ _ hS (.inr (.inr ⟨rfl, hjb, rfl, rfl⟩)), rfl⟩, Gh.le (by simp [push_cast, -List.getD_eq_getElem?_getD]) (by simp)⟩
              omega
        · have hd2 : decide ((j : Int) < (b.length : Int)) = false := decide_eq_false (by omega)
          have hjl : j = b.length := by omega
          have q0 := r0.2.2 (Nat.zero_le _)
          have q1 := r1.2.2 (Nat.zero_le _)
          rw [← hjl] at q0 q1
          have hcc : ((T.getD (i + 1) []).getD j 0 + 1 == (T.getD i []).getD j 0) = true := by
            rw [beq_iff_eq]; omega
          have hgb : (b.map encI).getD j .any = .any := by simp [List.getD, hjl]
          ((repeat refine PWp.seq ?_); refine PWp.draw TT (by kernel_rfl) (by kernel_rfl) (by rfl) (by rfl) (fun K hK => ?_); simp only [push_cast, seval, Nat.reduceEqDiff, Nat.reduceLeDiff, reduceCtorEq, hd1, hd2, getD_map hia, hgb]; (repeat refine sk ?_); refine hK _ ?_; clear hK K)
          ((repeat refine PWp.seq ?_); refine PWp.cond (by simp only [push_cast, seval, Nat.reduceEqDiff, Nat.reduceLeDiff, reduceCtorEq]; rfl) (fun hc => ?_) (fun hc => ?_))
          · cases hc
          · clear hc
            ((repeat refine PWp.seq ?_); refine PWp.draw TT (by kernel_rfl) (by kernel_rfl) (by rfl) (by rfl) (fun K hK => ?_); simp only [push_cast, seval, Nat.reduceEqDiff, Nat.reduceLeDiff, reduceCtorEq, hcc, hd1, g0, g1, ti, v0, v1, l0, l1, wrap64_id (n := (i : Int) + 1) (by omega) (by omega), wrap64_id (n := (T.getD (i + 1) []).getD j 0 + 1) (by omega) (by omega)]; (repeat refine sk ?_); refine hK _ ?_; clear hK K)
            ((repeat refine PWp.seq ?_); refine PWp.cond (by simp only [push_cast, seval, Nat.reduceEqDiff, Nat.reduceLeDiff, reduceCtorEq]; rfl) (fun hc => ?_) (fun hc => ?_))
            · clear hc
              ((repeat refine PWp.seq ?_); refine PWp.region TT (by rfl) (fun K hK => ?_); simp only [push_cast, seval, Nat.reduceEqDiff, Nat.reduceLeDiff, reduceCtorEq]; (repeat refine sk ?_); refine hK _ ?_; clear hK K)
              ((repeat refine PWp.seq ?_); refine PWp.region TT (by rfl) (fun K hK => ?_); simp only [push_cast, seval, Nat.reduceEqDiff, Nat.reduceLeDiff, reduceCtorEq, wrap64_id (n := (i : Int) + 1) (by omega) (by omega)]; (repeat refine sk ?_); refine hK _ ?_; clear hK K)
              refine ⟨_, _, ?_, ⟨i + 1, j, S ++ [2], rfl, by omega, hj, by simp; omega, okS_app a b S 0 0 i j 2 _ _ hS (.inr (.inl ⟨rfl, hia, rfl, rfl⟩)), rfl⟩, Gh.le (by simp [push_cast, -List.getD_eq_getElem?_getD]) (by simp)⟩
              omega
            · cases hc
      · have hd1 : decide ((i : Int) < (a.length : Int)) = false := decide_eq_false (by omega)
        have hjb : j < b.length := by omega
        have hil : i = a.length := by omega
        have hga : (a.map encI).getD i .any = .any := by simp [List.getD, hil]
        have r0 := hTr i (by omega)
        have g0 : (T.map fun r => IV.sl 1 (r.map encI)).getD i .any = .sl 1 ((T.getD i []).map encI) := rows_get (by omega)
        have g1 : (T.map fun r => IV.sl 1 (r.map encI)).getD (i + 1) .any = .any := by simp [List.getD, show T.length ≤ i + 1 by omega]
        have ti : ((i : Int) + 1).toNat = i + 1 := by omega
        have l0 := r0.1
        have v0 : ((T.getD i []).map encI).getD j .any = .lit (.int .i64 ((T.getD i []).getD j 0)) := getD_map (show j < (T.getD i []).length by omega)
        ((repeat refine PWp.seq ?_); refine PWp.draw TT (by kernel_rfl) (by kernel_rfl) (by rfl) (by rfl) (fun K hK => ?_); simp only [push_cast, seval, Nat.reduceEqDiff, Nat.reduceLeDiff, reduceCtorEq, hd1, Bool.false_and, hga, getD_map hjb]; (repeat refine sk ?_); refine hK _ ?_; clear hK K)
        ((repeat refine PWp.seq ?_); refine PWp.cond (by simp only [push_cast, seval, Nat.reduceEqDiff, Nat.reduceLeDiff, reduceCtorEq]; rfl) (fun hc => ?_) (fun hc => ?_))
        · cases hc
        · clear hc
          ((repeat refine PWp.seq ?_); refine PWp.draw TT (by kernel_rfl) (by kernel_rfl) (by rfl) (by rfl) (fun K hK => ?_); simp only [push_cast, seval, Nat.reduceEqDiff, Nat.reduceLeDiff, reduceCtorEq, hd1, Bool.false_and, g0, g1, ti, v0, l0, wrap64_id (n := (i : Int) + 1) (by omega) (by omega)]; (repeat refine sk ?_); refine hK _ ?_; clear hK K)
          ((repeat refine PWp.seq ?_); refine PWp.cond (by simp only [push_cast, seval, Nat.reduceEqDiff, Nat.reduceLeDiff, reduceCtorEq]; rfl) (fun hc => ?_) (fun hc => ?_))
          · cases hc
          · clear hc
            ((repeat refine PWp.seq ?_); refine PWp.region TT (by rfl) (fun K hK => ?_); simp only [push_cast, seval, Nat.reduceEqDiff, Nat.reduceLeDiff, reduceCtorEq]; (repeat refine sk ?_); refine hK _ ?_; clear hK K)
            ((repeat refine PWp.seq ?_); refine PWp.region TT (by rfl) (fun K hK => ?_); simp only [push_cast, seval, Nat.reduceEqDiff, Nat.reduceLeDiff, reduceCtorEq, wrap64_id (n := (j : Int) + 1) (by omega) (by omega)]; (repeat refine sk ?_); refine hK _ ?_; clear hK K)
            refine ⟨_, _, ?_, ⟨i, j + 1, S ++ [3], rfl, hi, by omega, by simp; omega, okS_app a b S 0 0 i j 3 _ _ hS (.inr (.inr ⟨rfl, hjb, rfl, rfl⟩)), rfl⟩, Gh.le (by simp [push_cast, -List.getD_eq_getElem?_getD]) (by simp)⟩
            omega
    · have hij : i = a.length ∧ j = b.length := by simp at hc; omega
      obtain ⟨rfl, rfl⟩ := hij
      (repeat refine PWp.seq ?_); refine PWp.exit (iteT rfl ?_)
      ((repeat refine PWp.seq ?_); refine PWp.region TT (by rfl) (fun K hK => ?_); simp only [push_cast, seval, Nat.reduceEqDiff, Nat.reduceLeDiff, reduceCtorEq]; (repeat refine sk ?_); refine hK _ ?_; clear hK K)
      ((repeat refine PWp.seq ?_); refine PWp.ret ?_)
      refine ⟨.inr rfl, by omega, _, [], ?_, ⟨S, hS, by omega, rfl⟩, rfl⟩
      (simp [push_cast, -List.getD_eq_getElem?_getD])
end Go.Proofs.Ytmocgjimlhgejaa
namespace Go.Proofs.Ytmocgjimlhgejaa
open Go.PL
set_option maxRecDepth 100000
set_option linter.unusedSimpArgs false
set_option linter.unusedVariables false
def upP (a b : Int × Int) : Prop := a.1 < b.1 ∧ a.2 < b.2
theorem right_iff (p : List (Int × Int)) (n m : Int) : rRight p n m = true ↔ (∀ x ∈ p, 0 ≤ x.1 ∧ x.1 < n ∧ 0 ≤ x.2 ∧ x.2 < m) ∧ p.Pairwise upP := by
  constructor
  · intro h
    have hr := of_decide_eq_true h
    refine ⟨fun x hx => ?_, List.pairwise_iff_getElem.2 (fun i j hi hj hij => ?_)⟩
    · obtain ⟨k, hk, rfl⟩ := List.getElem_of_mem hx
      have := (hr k hk).1
      simpa [List.getD, hk] using this
    · have := lt_of_right h j i hij hj
      simpa [upP, List.getD, hi, hj] using this
  · rintro ⟨h1, h2⟩
    refine decide_eq_true (fun k hk => ⟨?_, fun h0 => ?_⟩)
    · have := h1 p[k] (List.getElem_mem hk)
      simpa [List.getD, hk] using this
    · have := List.pairwise_iff_getElem.1 h2 (k - 1) k (by omega) hk (by omega)
      simpa [upP, List.getD, hk, show k - 1 < p.length by omega] using this
/-- Pairs of equal numbers, rising, below a place. -/
def goodP (a b : List Int) (i j : Nat) (p : List (Int × Int)) : Prop := (∀ q ∈ p, 0 ≤ q.1 ∧ q.1 < i ∧ 0 ≤ q.2 ∧ q.2 < j ∧ a.getD q.1.toNat 0 = b.getD q.2.toNat 0) ∧ p.Pairwise upP
theorem goodP_mono {a b : List Int} {i j i' j' : Nat} {p : List (Int × Int)} (h : goodP a b i j p) (hi : i ≤ i') (hj : j ≤ j') : goodP a b i' j' p := ⟨fun q hq => by have := h.1 q hq; omega, h.2⟩
theorem goodP_app {a b : List Int} {i j : Nat} {p : List (Int × Int)} (h : goodP a b i j p) (he : a.getD i 0 = b.getD j 0) : goodP a b (i + 1) (j + 1) (p ++ [((i : Int), (j : Int))]) := by
  refine ⟨fun q hq => ?_, ?_⟩
  · rcases List.mem_append.1 hq with hq | hq
    · have := h.1 q hq; omega
    · simp only [List.mem_singleton] at hq
      subst hq
      simp only [Int.toNat_natCast]
      exact ⟨by omega, by omega, by omega, by omega, he⟩
  · rw [List.pairwise_append]
    refine ⟨h.2, List.pairwise_singleton _ _, fun x hx y hy => ?_⟩
    simp only [List.mem_singleton] at hy
    subst hy
    have := h.1 x hx
    unfold upP
    simp only
    omega
theorem ref07_Pairs (a b : List Int) (ha : a.length ≤ 400) (hb : b.length ≤ 400) : PC Try.prog 38 [iN a, iN b] [] 0 19 (fun t obs => (∃ p, goodP a b a.length b.length p ∧ p.length ≤ a.length + b.length ∧ t = .iv (.sl 2 (p.map encP))) ∧ obs = []) := by
  refine PC.body [4] Try.func38 rfl (by rfl) (Nat.le_of_ble_eq_true (by rfl)) rfl ?_; simp only [enumA]
  ((repeat refine PWp.seq ?_); refine PWp.region TT (by rfl) (fun K hK => ?_); simp only [push_cast, seval, Nat.reduceEqDiff, Nat.reduceLeDiff, reduceCtorEq]; (repeat refine sk ?_); refine hK _ ?_; clear hK K)
  ((repeat refine PWp.seq ?_); refine PWp.region TT (by rfl) (fun K hK => ?_); simp only [push_cast, seval, Nat.reduceEqDiff, Nat.reduceLeDiff, reduceCtorEq]; (repeat refine sk ?_); refine hK _ ?_; clear hK K)
  ((repeat refine PWp.seq ?_); refine PWp.region TT (by rfl) (fun K hK => ?_); simp only [push_cast, seval, Nat.reduceEqDiff, Nat.reduceLeDiff, reduceCtorEq])
  ((repeat refine sk ?_); refine PCall.use (ref07_Steps a b ha hb) [] rfl (by simp [push_cast]) (by simp) (by simp [push_cast]) (by simp [push_cast]) (by simp [push_cast]) (by simp [push_cast]) ?_)
  rintro _ _ ⟨⟨S, hS, hSl, rfl⟩, rfl⟩
  (simp only [push_cast, seval, Nat.reduceEqDiff, Nat.reduceLeDiff, reduceCtorEq]; (repeat refine sk ?_); refine hK _ ?_; clear hK K)
  ((repeat refine PWp.seq ?_); refine PWp.region TT (by rfl) (fun K hK => ?_); simp only [push_cast, seval, Nat.reduceEqDiff, Nat.reduceLeDiff, reduceCtorEq]; (repeat refine sk ?_); refine hK _ ?_; clear hK K)
  ((repeat refine PWp.seq ?_); refine PWp.region TT (by rfl) (fun K hK => ?_); simp only [push_cast, seval, Nat.reduceEqDiff, Nat.reduceLeDiff, reduceCtorEq]; (repeat refine sk ?_); refine hK _ ?_; clear hK K)
  ((repeat refine PWp.seq ?_); refine PWp.region TT (by rfl) (fun K hK => ?_); simp only [push_cast, seval, Nat.reduceEqDiff, Nat.reduceLeDiff, reduceCtorEq]; (repeat refine sk ?_); refine hK _ ?_; clear hK K)
  ((repeat refine PWp.seq ?_); refine PWp.block ?_)
  refine PWp.loop (fun c st => ∃ (k i j : Nat) (p : List (Int × Int)), c = S.length - k ∧ k ≤ S.length ∧ okS a b i j (S.drop k) a.length b.length ∧ goodP a b i j p ∧ p.length ≤ k ∧ i ≤ a.length ∧ j ≤ b.length ∧
    st = ⟨[(5, .acc 0 2 (p.map encP)), (6, .iv (.sl 1 (S.map encI))), (7, iI i), (8, iI j), (9, iI k)], [(0, .row 79 2)], 1⟩) _ _ ⟨0, 0, 0, [], rfl, Nat.zero_le _, hS, ⟨by simp, List.Pairwise.nil⟩, Nat.le_refl _, Nat.zero_le _, Nat.zero_le _, rfl⟩ (Gh.le (by simp [push_cast, -List.getD_eq_getElem?_getD]) (by simp)) ?_
  rintro c st ⟨k, i, j, p, rfl, hk, hok, hg, hpl, hi, hj, rfl⟩
  ((repeat refine PWp.seq ?_); refine PWp.region TT (by rfl) (fun K hK => ?_); simp only [push_cast, seval, Nat.reduceEqDiff, Nat.reduceLeDiff, reduceCtorEq]; (repeat refine sk ?_); refine hK _ ?_; clear hK K)
  ((repeat refine PWp.seq ?_); refine PWp.cond (by simp only [push_cast, seval, Nat.reduceEqDiff, Nat.reduceLeDiff, reduceCtorEq]; rfl) (fun hc => ?_) (fun hc => ?_))
  · have hlt : k < S.length := by simpa using hc
    clear hc
    rw [drop_getD hlt] at hok
    have hgS : (S.map encI).getD k .any = encI (S.getD k default) := getD_map hlt
    generalize S.getD k default = x at *
    ((repeat refine PWp.seq ?_); refine PWp.skip ?_)
    ((repeat refine PWp.seq ?_); refine PWp.block ?_)
    rcases hok with ⟨rfl, h1, h2, h3, h4⟩ | ⟨rfl, h1, h4⟩ | ⟨rfl, h1, h4⟩
    · ((repeat refine PWp.seq ?_); refine PWp.region TT (by rfl) (fun K hK => ?_); simp only [push_cast, seval, Nat.reduceEqDiff, Nat.reduceLeDiff, reduceCtorEq, hgS]; (repeat refine sk ?_); refine hK _ ?_; clear hK K)
      ((repeat refine PWp.seq ?_); refine PWp.cond (by simp only [push_cast, seval, Nat.reduceEqDiff, Nat.reduceLeDiff, reduceCtorEq]; rfl) (fun hc => ?_) (fun hc => ?_))
      · clear hc
        ((repeat refine PWp.seq ?_); refine PWp.region TT (by rfl) (fun K hK => ?_); simp only [push_cast, seval, Nat.reduceEqDiff, Nat.reduceLeDiff, reduceCtorEq]; (repeat refine sk ?_); refine hK _ ?_; clear hK K)
        ((repeat refine PWp.seq ?_); refine PWp.region TT (by rfl) (fun K hK => ?_); simp only [push_cast, seval, Nat.reduceEqDiff, Nat.reduceLeDiff, reduceCtorEq, hgS]; (repeat refine sk ?_); refine hK _ ?_; clear hK K)
        ((repeat refine PWp.seq ?_); refine PWp.cond (by simp only [push_cast, seval, Nat.reduceEqDiff, Nat.reduceLeDiff, reduceCtorEq]; rfl) (fun hc => ?_) (fun hc => ?_))
        · clear hc
          ((repeat refine PWp.seq ?_); refine PWp.region TT (by rfl) (fun K hK => ?_); simp only [push_cast, seval, Nat.reduceEqDiff, Nat.reduceLeDiff, reduceCtorEq, wrap64_id (n := (i : Int) + 1) (by omega) (by omega)]; (repeat refine sk ?_); refine hK _ ?_; clear hK K)
          ((repeat refine PWp.seq ?_); refine PWp.region TT (by rfl) (fun K hK => ?_); simp only [push_cast, seval, Nat.reduceEqDiff, Nat.reduceLeDiff, reduceCtorEq, hgS]; (repeat refine sk ?_); refine hK _ ?_; clear hK K)
          ((repeat refine PWp.seq ?_); refine PWp.cond (by simp only [push_cast, seval, Nat.reduceEqDiff, Nat.reduceLeDiff, reduceCtorEq]; rfl) (fun hc => ?_) (fun hc => ?_))
          · clear hc
            ((repeat refine PWp.seq ?_); refine PWp.region TT (by rfl) (fun K hK => ?_); simp only [push_cast, seval, Nat.reduceEqDiff, Nat.reduceLeDiff, reduceCtorEq, wrap64_id (n := (j : Int) + 1) (by omega) (by omega)]; (repeat refine sk ?_); refine hK _ ?_; clear hK K)
            ((repeat refine PWp.seq ?_); refine PWp.region TT (by rfl) (fun K hK => ?_); simp only [push_cast, seval, Nat.reduceEqDiff, Nat.reduceLeDiff, reduceCtorEq, wrap64_id (n := (k : Int) + 1) (by omega) (by omega)]; (repeat refine sk ?_); refine hK _ ?_; clear hK K)
            refine ⟨_, _, ?_, ⟨k + 1, i + 1, j + 1, p ++ [((i : Int), (j : Int))], rfl, by omega, h4, goodP_app hg h3, by simp; omega, by omega, by omega, rfl⟩, Gh.le (by simp [push_cast, -List.getD_eq_getElem?_getD]) (by simp)⟩
            omega
          · cases hc
        · cases hc
      · cases hc
    · ((repeat refine PWp.seq ?_); refine PWp.region TT (by rfl) (fun K hK => ?_); simp only [push_cast, seval, Nat.reduceEqDiff, Nat.reduceLeDiff, reduceCtorEq, hgS]; (repeat refine sk ?_); refine hK _ ?_; clear hK K)
      ((repeat refine PWp.seq ?_); refine PWp.cond (by simp only [push_cast, seval, Nat.reduceEqDiff, Nat.reduceLeDiff, reduceCtorEq]; rfl) (fun hc => ?_) (fun hc => ?_))
      · cases hc
      · clear hc
        ((repeat refine PWp.seq ?_); refine PWp.skip ?_)
        ((repeat refine PWp.seq ?_); refine PWp.region TT (by rfl) (fun K hK => ?_); simp only [push_cast, seval, Nat.reduceEqDiff, Nat.reduceLeDiff, reduceCtorEq, hgS]; (repeat refine sk ?_); refine hK _ ?_; clear hK K)
        ((repeat refine PWp.seq ?_); refine PWp.cond (by simp only [push_cast, seval, Nat.reduceEqDiff, Nat.reduceLeDiff, reduceCtorEq]; rfl) (fun hc => ?_) (fun hc => ?_))
        · clear hc
          ((repeat refine PWp.seq ?_); refine PWp.region TT (by rfl) (fun K hK => ?_); simp only [push_cast, seval, Nat.reduceEqDiff, Nat.reduceLeDiff, reduceCtorEq, wrap64_id (n := (i : Int) + 1) (by omega) (by omega)]; (repeat refine sk ?_); refine hK _ ?_; clear hK K)
          ((repeat refine PWp.seq ?_); refine PWp.region TT (by rfl) (fun K hK => ?_); simp only [push_cast, seval, Nat.reduceEqDiff, Nat.reduceLeDiff, reduceCtorEq, hgS]; (repeat refine sk ?_); refine hK _ ?_; clear hK K)
          ((repeat refine PWp.seq ?_); refine PWp.cond (by simp only [push_cast, seval, Nat.reduceEqDiff, Nat.reduceLeDiff, reduceCtorEq]; rfl) (fun hc => ?_) (fun hc => ?_))
          · cases hc
          · clear hc
            ((repeat refine PWp.seq ?_); refine PWp.skip ?_)
            ((repeat refine PWp.seq ?_); refine PWp.region TT (by rfl) (fun K hK => ?_); simp only [push_cast, seval, Nat.reduceEqDiff, Nat.reduceLeDiff, reduceCtorEq, wrap64_id (n := (k : Int) + 1) (by omega) (by omega)]; (repeat refine sk ?_); refine hK _ ?_; clear hK K)
            refine ⟨_, _, ?_, ⟨k + 1, i + 1, j, p, rfl, by omega, h4, goodP_mono hg (by omega) (Nat.le_refl _), by omega, by omega, hj, rfl⟩, Gh.le (by simp [push_cast, -List.getD_eq_getElem?_getD]) (by simp)⟩
            omega
        · cases hc
    · ((repeat refine PWp.seq ?_); refine PWp.region TT (by rfl) (fun K hK => ?_); simp only [push_cast, seval, Nat.reduceEqDiff, Nat.reduceLeDiff, reduceCtorEq, hgS]; (repeat refine sk ?_); refine hK _ ?_; clear hK K)
      ((repeat refine PWp.seq ?_); refine PWp.cond (by simp only [push_cast, seval, Nat.reduceEqDiff, Nat.reduceLeDiff, reduceCtorEq]; rfl) (fun hc => ?_) (fun hc => ?_))
      · cases hc
      · clear hc
        ((repeat refine PWp.seq ?_); refine PWp.skip ?_)
        ((repeat refine PWp.seq ?_); refine PWp.region TT (by rfl) (fun K hK => ?_); simp only [push_cast, seval, Nat.reduceEqDiff, Nat.reduceLeDiff, reduceCtorEq, hgS]; (repeat refine sk ?_); refine hK _ ?_; clear hK K)
        ((repeat refine PWp.seq ?_); refine PWp.cond (by simp only [push_cast, seval, Nat.reduceEqDiff, Nat.reduceLeDiff, reduceCtorEq]; rfl) (fun hc => ?_) (fun hc => ?_))
        · cases hc
        · clear hc
          ((repeat refine PWp.seq ?_); refine PWp.skip ?_)
          ((repeat refine PWp.seq ?_); refine PWp.region TT (by rfl) (fun K hK => ?_); simp only [push_cast, seval, Nat.reduceEqDiff, Nat.reduceLeDiff, reduceCtorEq, hgS]; (repeat refine sk ?_); refine hK _ ?_; clear hK K)
          ((repeat refine PWp.seq ?_); refine PWp.cond (by simp only [push_cast, seval, Nat.reduceEqDiff, Nat.reduceLeDiff, reduceCtorEq]; rfl) (fun hc => ?_) (fun hc => ?_))
          · clear hc
            ((repeat refine PWp.seq ?_); refine PWp.region TT (by rfl) (fun K hK => ?_); simp only [push_cast, seval, Nat.reduceEqDiff, Nat.reduceLeDiff, reduceCtorEq, wrap64_id (n := (j : Int) + 1) (by omega) (by omega)]; (repeat refine sk ?_); refine hK _ ?_; clear hK K)
            ((repeat refine PWp.seq ?_); refine PWp.region TT (by rfl) (fun K hK => ?_); simp only [push_cast, seval, Nat.reduceEqDiff, Nat.reduceLeDiff, reduceCtorEq, wrap64_id (n := (k : Int) + 1) (by omega) (by omega)]; (repeat refine sk ?_); refine hK _ ?_; clear hK K)
            refine ⟨_, _, ?_, ⟨k + 1, i, j + 1, p, rfl, by omega, h4, goodP_mono hg (Nat.le_refl _) (by omega), by omega, hi, by omega, rfl⟩, Gh.le (by simp [push_cast, -List.getD_eq_getElem?_getD]) (by simp)⟩
            omega
          · cases hc
  · have hk' : k = S.length := by simp at hc; omega
    subst hk'
    rw [List.drop_length] at hok
    obtain ⟨rfl, rfl⟩ := hok
    (repeat refine PWp.seq ?_); refine PWp.exit (iteT rfl ?_)
    ((repeat refine PWp.seq ?_); refine PWp.region TT (by rfl) (fun K hK => ?_); simp only [push_cast, seval, Nat.reduceEqDiff, Nat.reduceLeDiff, reduceCtorEq]; (repeat refine sk ?_); refine hK _ ?_; clear hK K)
    ((repeat refine PWp.seq ?_); refine PWp.ret ?_)
    refine ⟨.inr rfl, by omega, _, [], ?_, ⟨p, hg, by omega, rfl⟩, rfl⟩
    (simp [push_cast, -List.getD_eq_getElem?_getD])
end Go.Proofs.Ytmocgjimlhgejaa
namespace Go.Proofs.Ytmocgjimlhgejaa
open Go.PL
set_option maxRecDepth 100000
set_option linter.unusedSimpArgs false
set_option linter.unusedVariables false
def numL (kn : List Ln) (l : List Ln) : List Int := l.map fun x => (kn.idxOf x : Int)
theorem numL_app {kn ys l : List Ln} (h : ∀ x ∈ l, x ∈ kn) : numL (kn ++ ys) l = numL kn l := by
  unfold numL
  refine List.map_congr_left (fun x hx => ?_)
  rw [List.idxOf_append, if_pos (h x hx)]
def iNums (kn : List Ln) (ls : List (List Ln)) : List IV := ls.map fun l => .sl 1 ((numL kn l).map encI)
theorem iNums_app {kn ys : List Ln} {ls : List (List Ln)} (h : ∀ l ∈ ls, ∀ x ∈ l, x ∈ kn) : iNums (kn ++ ys) ls = iNums kn ls := by
  unfold iNums
  refine List.map_congr_left (fun l hl => ?_)
  rw [numL_app (h l hl)]
/-- The first so many are other lines. -/
theorem idxOf_first {kn : List Ln} {x : Ln} {n : Nat} (hn : n < kn.length) (hf : ∀ i < n, kn.getD i default ≠ x) (he : kn.getD n default = x) : kn.idxOf x = n := by
  induction kn generalizing n with
  | nil => simp at hn
  | cons y kn ih =>
    cases n with
    | zero => simp at he; simp [he]
    | succ n =>
      have h0 : y ≠ x := by simpa using hf 0 (by omega)
      rw [List.idxOf_cons, beq_eq_false_iff_ne.2 h0, cond_false, ih (by simpa using hn) (fun i hi => by simpa using hf (i + 1) (by omega)) (by simpa using he)]
theorem idxOf_none {kn : List Ln} {x : Ln} (hf : ∀ i < kn.length, kn.getD i default ≠ x) : x ∉ kn := by
  intro hx
  obtain ⟨i, hi, rfl⟩ := List.getElem_of_mem hx
  exact hf i hi (by simp [List.getD, hi])
theorem ref06_Numbers (ls : List (List Ln)) (hl : ls.length ≤ 1000) (hll : ∀ l ∈ ls, l.length ≤ 1000) : PC Try.prog 37 [.iv (.sl 1 (ls.map encLs))] [] 0 19
    (fun t obs => (∃ kn : List Ln, kn.Nodup ∧ (∀ l ∈ ls, ∀ x ∈ l, x ∈ kn) ∧ t = .iv (.sl 1 (iNums kn ls))) ∧ obs = []) := by
  refine PC.body [2] Try.func37 rfl (by rfl) (Nat.le_of_ble_eq_true (by rfl)) rfl ?_; simp only [enumA]
  ((repeat refine PWp.seq ?_); refine PWp.region TT (by rfl) (fun K hK => ?_); simp only [push_cast, seval, Nat.reduceEqDiff, Nat.reduceLeDiff, reduceCtorEq]; (repeat refine sk ?_); refine hK _ ?_; clear hK K)
  ((repeat refine PWp.seq ?_); refine PWp.region TT (by rfl) (fun K hK => ?_); simp only [push_cast, seval, Nat.reduceEqDiff, Nat.reduceLeDiff, reduceCtorEq]; (repeat refine sk ?_); refine hK _ ?_; clear hK K)
  ((repeat refine PWp.seq ?_); refine PWp.region TT (by rfl) (fun K hK => ?_); simp only [push_cast, seval, Nat.reduceEqDiff, Nat.reduceLeDiff, reduceCtorEq]; (repeat refine sk ?_); refine hK _ ?_; clear hK K)
  ((repeat refine PWp.seq ?_); refine PWp.region TT (by rfl) (fun K hK => ?_); simp only [push_cast, seval, Nat.reduceEqDiff, Nat.reduceLeDiff, reduceCtorEq]; (repeat refine sk ?_); refine hK _ ?_; clear hK K)
  ((repeat refine PWp.seq ?_); refine PWp.block ?_)
  refine PWp.loop (fun c st => ∃ (i : Nat) (kn : List Ln), c = ls.length - i ∧ i ≤ ls.length ∧ kn.Nodup ∧ kn.length ≤ i * 1000 ∧ (∀ l ∈ ls.take i, ∀ x ∈ l, x ∈ kn) ∧
    st = ⟨[(0, .iv (.sl 1 (ls.map encLs))), (3, .acc 0 2 (kn.map encL)), (4, .acc 1 1 (iNums kn (ls.take i))), (5, iI i)], [(1, .row 84 1), (0, .row 38 2)], 2⟩) _ _ ⟨0, [], rfl, Nat.zero_le _, List.nodup_nil, by simp, by simp, rfl⟩ (Gh.le (by simp [push_cast, -List.getD_eq_getElem?_getD, iNums]) (by simp)) ?_
  rintro c st ⟨i, kn, rfl, hi, hnd, hkl, hin, rfl⟩
  ((repeat refine PWp.seq ?_); refine PWp.region TT (by rfl) (fun K hK => ?_); simp only [push_cast, seval, Nat.reduceEqDiff, Nat.reduceLeDiff, reduceCtorEq]; (repeat refine sk ?_); refine hK _ ?_; clear hK K)
  ((repeat refine PWp.seq ?_); refine PWp.cond (by simp only [push_cast, seval, Nat.reduceEqDiff, Nat.reduceLeDiff, reduceCtorEq]; rfl) (fun hc => ?_) (fun hc => ?_))
  · have hlt : i < ls.length := by simpa using hc
    clear hc
    have hli := hll _ (getD_mem hlt)
    have hgl : (ls.map encLs).getD i .any = encLs (ls.getD i default) := getD_map hlt
    have htk : ls.take (i + 1) = ls.take i ++ [ls.getD i default] := take_succ_getD hlt
    generalize ls.getD i default = l at *
    have hil : (iNums kn (ls.take i)).length ≤ 1000 := by unfold iNums; rw [List.length_map, List.length_take]; omega
    ((repeat refine PWp.seq ?_); refine PWp.skip ?_)
    ((repeat refine PWp.seq ?_); refine PWp.block ?_)
    ((repeat refine PWp.seq ?_); refine PWp.region TT (by rfl) (fun K hK => ?_); simp only [push_cast, seval, Nat.reduceEqDiff, Nat.reduceLeDiff, reduceCtorEq]; (repeat refine sk ?_); refine hK _ ?_; clear hK K)
    ((repeat refine PWp.seq ?_); refine PWp.region TT (by rfl) (fun K hK => ?_); simp only [push_cast, seval, Nat.reduceEqDiff, Nat.reduceLeDiff, reduceCtorEq]; (repeat refine sk ?_); refine hK _ ?_; clear hK K)
    ((repeat refine PWp.seq ?_); refine PWp.block ?_)
    refine PWp.loop (fun c st => ∃ (k : Nat) (kn : List Ln), c = l.length - k ∧ k ≤ l.length ∧ kn.Nodup ∧ kn.length ≤ i * 1000 + k ∧ (∀ l ∈ ls.take i, ∀ x ∈ l, x ∈ kn) ∧ (∀ x ∈ l.take k, x ∈ kn) ∧
      st = ⟨[(0, .iv (.sl 1 (ls.map encLs))), (3, .acc 0 2 (kn.map encL)), (4, .acc 1 1 (iNums kn (ls.take i))), (5, iI i), (6, .acc 2 1 ((numL kn (l.take k)).map encI)), (7, iI k)], [(2, .row 3 1), (1, .row 84 1), (0, .row 38 2)], 3⟩) _ _ ⟨0, kn, rfl, Nat.zero_le _, hnd, by omega, hin, by simp, rfl⟩ (Gh.le (by simp [push_cast, -List.getD_eq_getElem?_getD, numL]) (by simp)) ?_
    clear hnd hkl hin hil kn
    rintro c st ⟨k, kn, rfl, hk, hnd, hkl, hin, hin2, rfl⟩
    ((repeat refine PWp.seq ?_); refine PWp.region TT (by rfl) (fun K hK => ?_); simp only [push_cast, seval, Nat.reduceEqDiff, Nat.reduceLeDiff, reduceCtorEq, hgl]; (repeat refine sk ?_); refine hK _ ?_; clear hK K)
    ((repeat refine PWp.seq ?_); refine PWp.cond (by simp only [push_cast, seval, Nat.reduceEqDiff, Nat.reduceLeDiff, reduceCtorEq]; rfl) (fun hc => ?_) (fun hc => ?_))
    · have hlt2 : k < l.length := by simpa using hc
      clear hc
      have hgx : (l.map encL).getD k .any = encL (l.getD k default) := getD_map hlt2
      have htk2 : l.take (k + 1) = l.take k ++ [l.getD k default] := take_succ_getD hlt2
      generalize l.getD k default = x at *
      ((repeat refine PWp.seq ?_); refine PWp.skip ?_)
      ((repeat refine PWp.seq ?_); refine PWp.block ?_)
      ((repeat refine PWp.seq ?_); refine PWp.region TT (by rfl) (fun K hK => ?_); simp only [push_cast, seval, Nat.reduceEqDiff, Nat.reduceLeDiff, reduceCtorEq]; (repeat refine sk ?_); refine hK _ ?_; clear hK K)
      ((repeat refine PWp.seq ?_); refine PWp.block ?_)
      refine PWp.loop (fun c st => ∃ n : Nat, c = kn.length - n ∧ n ≤ kn.length ∧ (∀ i < n, kn.getD i default ≠ x) ∧
        st = ⟨[(0, .iv (.sl 1 (ls.map encLs))), (3, .acc 0 2 (kn.map encL)), (4, .acc 1 1 (iNums kn (ls.take i))), (5, iI i), (6, .acc 2 1 ((numL kn (l.take k)).map encI)), (7, iI k), (8, iI n)], [(2, .row 3 1), (1, .row 84 1), (0, .row 38 2)], 3⟩) _ _ ⟨0, rfl, Nat.zero_le _, by simp, rfl⟩ (Gh.le (by simp [push_cast, -List.getD_eq_getElem?_getD]) (by simp)) ?_
      rintro c st ⟨n, rfl, hn, hf, rfl⟩
      have hkl2 : (numL kn (l.take k)).length ≤ 1000 := by unfold numL; rw [List.length_map, List.length_take]; omega
      by_cases hnl : n < kn.length
      · have hd : decide ((n : Int) < (kn.length : Int)) = true := decide_eq_true (by omega)
        ((repeat refine PWp.seq ?_); refine PWp.draw TT (by kernel_rfl) (by kernel_rfl) (by rfl) (by rfl) (fun K hK => ?_); simp only [push_cast, seval, Nat.reduceEqDiff, Nat.reduceLeDiff, reduceCtorEq, hd, getD_map hnl, hgl, hgx]; (repeat refine sk ?_); refine hK _ ?_; clear hK K)
        ((repeat refine PWp.seq ?_); refine PWp.cond (by simp only [push_cast, seval, Nat.reduceEqDiff, Nat.reduceLeDiff, reduceCtorEq]; rfl) (fun hc => ?_) (fun hc => ?_))
        · have hne : kn.getD n default ≠ x := by
            intro e
            rw [e] at hc
            simp at hc
          clear hc
          ((repeat refine PWp.seq ?_); refine PWp.skip ?_)
          ((repeat refine PWp.seq ?_); refine PWp.block ?_)
          ((repeat refine PWp.seq ?_); refine PWp.region TT (by rfl) (fun K hK => ?_); simp only [push_cast, seval, Nat.reduceEqDiff, Nat.reduceLeDiff, reduceCtorEq, wrap64_id (n := (n : Int) + 1) (by omega) (by omega)]; (repeat refine sk ?_); refine hK _ ?_; clear hK K)
          refine ⟨_, _, ?_, ⟨n + 1, rfl, by omega, fun i' hi' => ?_, rfl⟩, Gh.le (by simp [push_cast, -List.getD_eq_getElem?_getD]) (by simp)⟩
          · omega
          · by_cases e : i' = n
            · subst e; exact hne
            · exact hf i' (by omega)
        · have he : kn.getD n default = x := lnEq (by simpa using hc)
          clear hc
          have hx : x ∈ kn := by rw [← he]; exact getD_mem hnl
          have hidx := idxOf_first hnl hf he
          have hnum : numL kn (l.take k ++ [x]) = numL kn (l.take k) ++ [(n : Int)] := by simp [numL, hidx]
          (repeat refine PWp.seq ?_); refine PWp.exit (iteT rfl ?_)
          ((repeat refine PWp.seq ?_); refine PWp.region TT (by rfl) (fun K hK => ?_); simp only [push_cast, seval, Nat.reduceEqDiff, Nat.reduceLeDiff, reduceCtorEq]; (repeat refine sk ?_); refine hK _ ?_; clear hK K)
          ((repeat refine PWp.seq ?_); refine PWp.cond (by simp only [push_cast, seval, Nat.reduceEqDiff, Nat.reduceLeDiff, reduceCtorEq]; rfl) (fun hc => ?_) (fun hc => ?_))
          · exfalso
            simp at hc
            omega
          · clear hc
            ((repeat refine PWp.seq ?_); refine PWp.skip ?_)
            ((repeat refine PWp.seq ?_); refine PWp.region TT (by rfl) (fun K hK => ?_); simp only [push_cast, seval, Nat.reduceEqDiff, Nat.reduceLeDiff, reduceCtorEq]; (repeat refine sk ?_); refine hK _ ?_; clear hK K)
            ((repeat refine PWp.seq ?_); refine PWp.region TT (by rfl) (fun K hK => ?_); simp only [push_cast, seval, Nat.reduceEqDiff, Nat.reduceLeDiff, reduceCtorEq, wrap64_id (n := (k : Int) + 1) (by omega) (by omega)]; (repeat refine sk ?_); refine hK _ ?_; clear hK K)
            refine ⟨_, _, ?_, ⟨k + 1, kn, rfl, by omega, hnd, by omega, hin, fun y hy => ?_, rfl⟩, Gh.le (by simp [push_cast, -List.getD_eq_getElem?_getD, htk2, hnum]) (by simp)⟩
            · omega
            · rw [htk2] at hy
              rcases List.mem_append.1 hy with hy | hy
              · exact hin2 y hy
              · simp only [List.mem_singleton] at hy
                subst hy; exact hx
      · have hnl' : n = kn.length := by omega
        subst hnl'
        have hd : decide ((kn.length : Int) < (kn.length : Int)) = false := decide_eq_false (by omega)
        have hga : (kn.map encL).getD kn.length .any = .any := by simp [List.getD]
        have hx : x ∉ kn := idxOf_none hf
        have hnum : numL (kn ++ [x]) (l.take k ++ [x]) = numL kn (l.take k) ++ [(kn.length : Int)] := by
          have := numL_app (ys := [x]) hin2
          unfold numL at this ⊢
          rw [List.map_append, this]
          simp [List.idxOf_append, hx]
        have hiN := iNums_app (ys := [x]) hin
        ((repeat refine PWp.seq ?_); refine PWp.draw TT (by kernel_rfl) (by kernel_rfl) (by rfl) (by rfl) (fun K hK => ?_); simp only [push_cast, seval, Nat.reduceEqDiff, Nat.reduceLeDiff, reduceCtorEq, hd, hga, hgl, hgx]; (repeat refine sk ?_); refine hK _ ?_; clear hK K)
        ((repeat refine PWp.seq ?_); refine PWp.cond (by simp only [push_cast, seval, Nat.reduceEqDiff, Nat.reduceLeDiff, reduceCtorEq]; rfl) (fun hc => ?_) (fun hc => ?_))
        · cases hc
        · clear hc
          (repeat refine PWp.seq ?_); refine PWp.exit (iteT rfl ?_)
          ((repeat refine PWp.seq ?_); refine PWp.region TT (by rfl) (fun K hK => ?_); simp only [push_cast, seval, Nat.reduceEqDiff, Nat.reduceLeDiff, reduceCtorEq]; (repeat refine sk ?_); refine hK _ ?_; clear hK K)
          ((repeat refine PWp.seq ?_); refine PWp.cond (by simp only [push_cast, seval, Nat.reduceEqDiff, Nat.reduceLeDiff, reduceCtorEq]; rfl) (fun hc => ?_) (fun hc => ?_))
          · clear hc
            ((repeat refine PWp.seq ?_); refine PWp.region TT (by rfl) (fun K hK => ?_); simp only [push_cast, seval, Nat.reduceEqDiff, Nat.reduceLeDiff, reduceCtorEq, hgl, hgx]; (repeat refine sk ?_); refine hK _ ?_; clear hK K)
            ((repeat refine PWp.seq ?_); refine PWp.region TT (by rfl) (fun K hK => ?_); simp only [push_cast, seval, Nat.reduceEqDiff, Nat.reduceLeDiff, reduceCtorEq]; (repeat refine sk ?_); refine hK _ ?_; clear hK K)
            ((repeat refine PWp.seq ?_); refine PWp.region TT (by rfl) (fun K hK => ?_); simp only [push_cast, seval, Nat.reduceEqDiff, Nat.reduceLeDiff, reduceCtorEq, wrap64_id (n := (k : Int) + 1) (by omega) (by omega)]; (repeat refine sk ?_); refine hK _ ?_; clear hK K)
            refine ⟨_, _, ?_, ⟨k + 1, kn ++ [x], rfl, by omega, ?_, by simp; omega, fun q hq y hy => List.mem_append_left _ (hin q hq y hy), fun y hy => ?_, rfl⟩, Gh.le (by simp [push_cast, -List.getD_eq_getElem?_getD, htk2, hnum, hiN]) (by simp)⟩
            · omega
            · rw [List.nodup_append]
              refine ⟨hnd, by simp, fun y hy z hz => ?_⟩
              simp only [List.mem_singleton] at hz
              subst hz
              intro e
              subst e
              exact hx hy
            · rw [htk2] at hy
              rcases List.mem_append.1 hy with hy | hy
              · exact List.mem_append_left _ (hin2 y hy)
              · exact List.mem_append_right _ hy
          · simp at hc
    · have hk' : k = l.length := by simp at hc; omega
      subst hk'
      rw [List.take_length] at *
      have hnew : iNums kn (ls.take i ++ [l]) = iNums kn (ls.take i) ++ [.sl 1 ((numL kn l).map encI)] := by simp [iNums]
      have hil2 : (iNums kn (ls.take i)).length ≤ 1000 := by unfold iNums; rw [List.length_map, List.length_take]; omega
      (repeat refine PWp.seq ?_); refine PWp.exit (iteT rfl ?_)
      ((repeat refine PWp.seq ?_); refine PWp.region TT (by rfl) (fun K hK => ?_); simp only [push_cast, seval, Nat.reduceEqDiff, Nat.reduceLeDiff, reduceCtorEq]; (repeat refine sk ?_); refine hK _ ?_; clear hK K)
      ((repeat refine PWp.seq ?_); refine PWp.region TT (by rfl) (fun K hK => ?_); simp only [push_cast, seval, Nat.reduceEqDiff, Nat.reduceLeDiff, reduceCtorEq, wrap64_id (n := (i : Int) + 1) (by omega) (by omega)]; (repeat refine sk ?_); refine hK _ ?_; clear hK K)
      refine ⟨_, _, ?_, ⟨i + 1, kn, rfl, by omega, hnd, by omega, fun q hq y hy => ?_, rfl⟩, Gh.le (by simp [push_cast, -List.getD_eq_getElem?_getD, htk, hnew]) (by simp)⟩
      · omega
      · rw [htk] at hq
        rcases List.mem_append.1 hq with hq | hq
        · exact hin q hq y hy
        · simp only [List.mem_singleton] at hq
          subst hq; exact hin2 y hy
  · have hi' : i = ls.length := by simp at hc; omega
    subst hi'
    rw [List.take_length] at *
    (repeat refine PWp.seq ?_); refine PWp.exit (iteT rfl ?_)
    ((repeat refine PWp.seq ?_); refine PWp.region TT (by rfl) (fun K hK => ?_); simp only [push_cast, seval, Nat.reduceEqDiff, Nat.reduceLeDiff, reduceCtorEq]; (repeat refine sk ?_); refine hK _ ?_; clear hK K)
    ((repeat refine PWp.seq ?_); refine PWp.ret ?_)
    refine ⟨.inr rfl, by omega, _, [], ?_, ⟨kn, hnd, hin, rfl⟩, rfl⟩
    (simp [push_cast, -List.getD_eq_getElem?_getD])
end Go.Proofs.Ytmocgjimlhgejaa
namespace Go.Proofs.Ytmocgjimlhgejaa
open Go.PL
set_option maxRecDepth 100000
set_option linter.unusedSimpArgs false
set_option linter.unusedVariables false
/-- A match of equal lines. -/
def matchP (a b : List Ln) (p : List (Int × Int)) : Prop := rRight p a.length b.length = true ∧ p.length ≤ 400 ∧ ∀ q ∈ p, a.getD q.1.toNat default = b.getD q.2.toNat default
theorem numL_length (kn l : List Ln) : (numL kn l).length = l.length := by simp [numL]
theorem numL_get {kn l : List Ln} {i : Nat} (h : i < l.length) : (numL kn l).getD i 0 = (kn.idxOf (l.getD i default) : Int) := by simp [numL, List.getD, h]
theorem idx_inj {kn : List Ln} {x y : Ln} (hx : x ∈ kn) (hy : y ∈ kn) (h : (kn.idxOf x : Int) = (kn.idxOf y : Int)) : x = y := by
  have h' : kn.idxOf x = kn.idxOf y := by omega
  have h1 := List.idxOf_lt_length_iff.2 hx
  have h2 := List.idxOf_lt_length_iff.2 hy
  have e1 : kn[kn.idxOf x] = x := List.getElem_idxOf h1
  have e2 : kn[kn.idxOf y] = y := List.getElem_idxOf h2
  rw [← e1, ← e2]
  congr 1
theorem goodP_match {kn a b : List Ln} {p : List (Int × Int)} (ha : ∀ x ∈ a, x ∈ kn) (hb : ∀ x ∈ b, x ∈ kn) (hal : a.length ≤ 40) (hbl : b.length ≤ 40) (hl : p.length ≤ a.length + b.length) (h : goodP (numL kn a) (numL kn b) a.length b.length p) : matchP a b p := by
  refine ⟨(right_iff p _ _).2 ⟨fun x hx => ?_, h.2⟩, by omega, fun q hq => ?_⟩
  · have := h.1 x hx; omega
  · obtain ⟨h1, h2, h3, h4, h5⟩ := h.1 q hq
    have k1 : q.1.toNat < a.length := by omega
    have k2 : q.2.toNat < b.length := by omega
    rw [numL_get k1, numL_get k2] at h5
    exact idx_inj (ha _ (getD_mem k1)) (hb _ (getD_mem k2)) h5
theorem law14_pairs (a b : List Ln) (ha : a.length ≤ 40) (hb : b.length ≤ 40) : PC Try.prog 21 [iL a, iL b] [] 0 60 (fun t obs => (∃ p, matchP a b p ∧ t = .iv (.sl 2 (p.map encP))) ∧ obs = []) := by
  refine PC.body [4] Try.func21 rfl (by rfl) (Nat.le_of_ble_eq_true (by rfl)) rfl ?_; simp only [enumA]
  ((repeat refine PWp.seq ?_); refine PWp.region TT (by rfl) (fun K hK => ?_); simp only [push_cast, seval, Nat.reduceEqDiff, Nat.reduceLeDiff, reduceCtorEq]; (repeat refine sk ?_); refine hK _ ?_; clear hK K)
  ((repeat refine PWp.seq ?_); refine PWp.region TT (by rfl) (fun K hK => ?_); simp only [push_cast, seval, Nat.reduceEqDiff, Nat.reduceLeDiff, reduceCtorEq])
  ((repeat refine sk ?_); refine PCall.use (ref06_Numbers [a, b] (by simp) (by intro l hl; simp at hl; rcases hl with rfl | rfl <;> omega)) [] rfl (by simp [push_cast, encLs]) (by simp) (by simp [push_cast, encLs]) (by simp [push_cast, encLs]) (by simp [push_cast, encLs]) (by simp [push_cast, encLs]) ?_)
  rintro _ _ ⟨⟨kn, hnd, hin, rfl⟩, rfl⟩
  have hka : ∀ x ∈ a, x ∈ kn := fun x hx => hin a (by simp) x hx
  have hkb : ∀ x ∈ b, x ∈ kn := fun x hx => hin b (by simp) x hx
  have hg := fun p hl h => goodP_match (p := p) hka hkb ha hb hl h
  have la := numL_length kn a
  have lb := numL_length kn b
  have e : iNums kn [a, b] = [.sl 1 ((numL kn a).map encI), .sl 1 ((numL kn b).map encI)] := rfl
  rw [e]
  generalize numL kn a = x at *
  generalize numL kn b = y at *
  rw [← la, ← lb] at hg
  (simp only [push_cast, seval, Nat.reduceEqDiff, Nat.reduceLeDiff, reduceCtorEq]; (repeat refine sk ?_); refine hK _ ?_; clear hK K)
  ((repeat refine PWp.seq ?_); refine PWp.drawT TT (by kernel_rfl) [] (.q 0 (.q 1 (.q 2 (.q 3 (.q 4 (.q 5 (.x 6 (.q 7 .nil)))))))) (by rfl) (by kernel_rfl) (by rfl) (by simp) (fun K hK => ?_); simp only [push_cast, seval, Nat.reduceEqDiff, Nat.reduceLeDiff, reduceCtorEq])
  ((repeat refine sk ?_); refine PCall.use (ref07_Pairs x y (by omega) (by omega)) [] rfl (by simp [push_cast]) (by simp) (by simp [push_cast]) (by simp [push_cast]) (by simp [push_cast]) (by simp [push_cast]) ?_)
  rintro _ _ ⟨⟨p, hp, hpl, rfl⟩, rfl⟩
  (simp only [push_cast, seval, Nat.reduceEqDiff, Nat.reduceLeDiff, reduceCtorEq]; (repeat refine sk ?_); refine hK _ ?_; clear hK K)
  ((repeat refine PWp.seq ?_); refine PWp.ret ?_)
  refine ⟨.inr rfl, by omega, _, [], ?_, ⟨p, hg p hpl hp, rfl⟩, rfl⟩
  (simp [push_cast, -List.getD_eq_getElem?_getD])
end Go.Proofs.Ytmocgjimlhgejaa
namespace Go.Proofs.Ytmocgjimlhgejaa
open Go.PL
set_option maxRecDepth 100000
set_option linter.unusedSimpArgs false
set_option linter.unusedVariables false
def okT (l : List Ln) : Prop := ∀ x ∈ l, x.t.length ≤ 9223372036854775807
/-- Is a line right at its place? -/
def rightAt (l : List Ln) (i : Nat) : Prop := (∀ k < (l.getD i default).t.length, (l.getD i default).t.getD k 0 ≠ 10) ∧ ¬ ((l.getD i default).b = true ∧ (i + 1 < l.length ∨ (l.getD i default).t.length = 0))
instance (l : List Ln) (i : Nat) : Decidable (rightAt l i) := by unfold rightAt; infer_instance
def rightB (l : List Ln) : Bool := decide (∀ i < l.length, rightAt l i)
theorem rightB_false {l : List Ln} {i : Nat} (hi : i < l.length) (h : ¬ rightAt l i) : rightB l = false := decide_eq_false (fun hh => h (hh i hi))
theorem ref01_Right (l : List Ln) (hl : l.length ≤ 1000000) (ht : okT l) : PC Try.prog 34 [iL l] [] 0 0 (fun t obs => t = iB (rightB l) ∧ obs = []) := by
  refine PC.body [2] Try.func34 rfl (by rfl) (Nat.le_of_ble_eq_true (by rfl)) rfl ?_; simp only [enumA]
  ((repeat refine PWp.seq ?_); refine PWp.region TT (by rfl) (fun K hK => ?_); simp only [push_cast, seval, Nat.reduceEqDiff, Nat.reduceLeDiff, reduceCtorEq]; (repeat refine sk ?_); refine hK _ ?_; clear hK K)
  ((repeat refine PWp.seq ?_); refine PWp.region TT (by rfl) (fun K hK => ?_); simp only [push_cast, seval, Nat.reduceEqDiff, Nat.reduceLeDiff, reduceCtorEq]; (repeat refine sk ?_); refine hK _ ?_; clear hK K)
  ((repeat refine PWp.seq ?_); refine PWp.block ?_)
  refine PWp.loop (fun c st => ∃ i : Nat, c = l.length - i ∧ i ≤ l.length ∧ (∀ j < i, rightAt l j) ∧
    st = ⟨[(0, iL l), (3, iI i)], [], 0⟩) _ _ ⟨0, rfl, Nat.zero_le _, by simp, rfl⟩ (Gh.le (by simp [push_cast, -List.getD_eq_getElem?_getD]) (by simp)) ?_
  rintro c st ⟨i, rfl, hi, hf, rfl⟩
  ((repeat refine PWp.seq ?_); refine PWp.region TT (by rfl) (fun K hK => ?_); simp only [push_cast, seval, Nat.reduceEqDiff, Nat.reduceLeDiff, reduceCtorEq]; (repeat refine sk ?_); refine hK _ ?_; clear hK K)
  ((repeat refine PWp.seq ?_); refine PWp.cond (by simp only [push_cast, seval, Nat.reduceEqDiff, Nat.reduceLeDiff, reduceCtorEq]; rfl) (fun hc => ?_) (fun hc => ?_))
  · have hlt : i < l.length := by simpa using hc
    clear hc
    have htx := ht _ (getD_mem hlt)
    have hg : (l.map encL).getD i .any = encL (l.getD i default) := getD_map hlt
    have hra : rightAt l i ↔ (∀ k < (l.getD i default).t.length, (l.getD i default).t.getD k 0 ≠ 10) ∧ ¬ ((l.getD i default).b = true ∧ (i + 1 < l.length ∨ (l.getD i default).t.length = 0)) := Iff.rfl
    have hbad := fun h => rightB_false (l := l) hlt h
    generalize l.getD i default = x at *
    ((repeat refine PWp.seq ?_); refine PWp.skip ?_)
    ((repeat refine PWp.seq ?_); refine PWp.block ?_)
    ((repeat refine PWp.seq ?_); refine PWp.region TT (by rfl) (fun K hK => ?_); simp only [push_cast, seval, Nat.reduceEqDiff, Nat.reduceLeDiff, reduceCtorEq]; (repeat refine sk ?_); refine hK _ ?_; clear hK K)
    ((repeat refine PWp.seq ?_); refine PWp.block ?_)
    refine PWp.loop (fun c st => ∃ k : Nat, c = x.t.length - k ∧ k ≤ x.t.length ∧ (∀ j < k, x.t.getD j 0 ≠ 10) ∧
      st = ⟨[(0, iL l), (3, iI i), (4, iI k)], [], 0⟩) _ _ ⟨0, rfl, Nat.zero_le _, by simp, rfl⟩ (Gh.le (by simp [push_cast, -List.getD_eq_getElem?_getD]) (by simp)) ?_
    rintro c st ⟨k, rfl, hk, hf2, rfl⟩
    ((repeat refine PWp.seq ?_); refine PWp.region TT (by rfl) (fun K hK => ?_); simp only [push_cast, seval, Nat.reduceEqDiff, Nat.reduceLeDiff, reduceCtorEq, hg]; (repeat refine sk ?_); refine hK _ ?_; clear hK K)
    ((repeat refine PWp.seq ?_); refine PWp.cond (by simp only [push_cast, seval, Nat.reduceEqDiff, Nat.reduceLeDiff, reduceCtorEq]; rfl) (fun hc => ?_) (fun hc => ?_))
    · have hlt2 : k < x.t.length := by simpa using hc
      clear hc
      ((repeat refine PWp.seq ?_); refine PWp.skip ?_)
      ((repeat refine PWp.seq ?_); refine PWp.block ?_)
      ((repeat refine PWp.seq ?_); refine PWp.region TT (by rfl) (fun K hK => ?_); simp only [push_cast, seval, Nat.reduceEqDiff, Nat.reduceLeDiff, reduceCtorEq, hg]; (repeat refine sk ?_); refine hK _ ?_; clear hK K)
      ((repeat refine PWp.seq ?_); refine PWp.cond (by simp only [push_cast, seval, Nat.reduceEqDiff, Nat.reduceLeDiff, reduceCtorEq]; rfl) (fun hc => ?_) (fun hc => ?_))
      · have h10 : x.t.getD k 0 = 10 := by
          have h : (x.t.getD k 0).toNat = 10 := by have := eq_of_beq hc; omega
          exact UInt8.toNat_inj.1 h
        have e := hbad (fun h => (hra.1 h).1 k hlt2 h10)
        ((repeat refine PWp.seq ?_); refine PWp.region TT (by rfl) (fun K hK => ?_); simp only [push_cast, seval, Nat.reduceEqDiff, Nat.reduceLeDiff, reduceCtorEq]; (repeat refine sk ?_); refine hK _ ?_; clear hK K)
        ((repeat refine PWp.seq ?_); refine PWp.ret ?_)
        refine ⟨.inr rfl, by omega, _, [], ?_, rfl, rfl⟩
        rw [e]
        (simp [push_cast, -List.getD_eq_getElem?_getD])
      · have h10 : x.t.getD k 0 ≠ 10 := fun e => by rw [e] at hc; simp at hc
        clear hc
        ((repeat refine PWp.seq ?_); refine PWp.skip ?_)
        ((repeat refine PWp.seq ?_); refine PWp.region TT (by rfl) (fun K hK => ?_); simp only [push_cast, seval, Nat.reduceEqDiff, Nat.reduceLeDiff, reduceCtorEq, wrap64_id (n := (k : Int) + 1) (by omega) (by omega)]; (repeat refine sk ?_); refine hK _ ?_; clear hK K)
        refine ⟨_, _, ?_, ⟨k + 1, rfl, by omega, fun j hj => ?_, rfl⟩, Gh.le (by simp [push_cast, -List.getD_eq_getElem?_getD]) (by simp)⟩
        · omega
        · by_cases e : j = k
          · subst e; exact h10
          · exact hf2 j (by omega)
    · have hk' : k = x.t.length := by simp at hc; omega
      subst hk'
      clear hc
      (repeat refine PWp.seq ?_); refine PWp.exit (iteT rfl ?_)
      cases hb : x.b with
      | false =>
        have good : rightAt l i := hra.2 ⟨hf2, fun h => by rw [hb] at h; cases h.1⟩
        ((repeat refine PWp.seq ?_); refine PWp.region TT (by rfl) (fun K hK => ?_); simp only [push_cast, seval, Nat.reduceEqDiff, Nat.reduceLeDiff, reduceCtorEq, hg, hb]; (repeat refine sk ?_); refine hK _ ?_; clear hK K)
        ((repeat refine PWp.seq ?_); refine PWp.cond (by simp only [push_cast, seval, Nat.reduceEqDiff, Nat.reduceLeDiff, reduceCtorEq]; rfl) (fun hc => ?_) (fun hc => ?_))
        · cases hc
        · clear hc
          ((repeat refine PWp.seq ?_); refine PWp.skip ?_)
          ((repeat refine PWp.seq ?_); refine PWp.region TT (by rfl) (fun K hK => ?_); simp only [push_cast, seval, Nat.reduceEqDiff, Nat.reduceLeDiff, reduceCtorEq, wrap64_id (n := (i : Int) + 1) (by omega) (by omega)]; (repeat refine sk ?_); refine hK _ ?_; clear hK K)
          refine ⟨_, _, ?_, ⟨i + 1, rfl, by omega, fun j hj => ?_, rfl⟩, Gh.le (by simp [push_cast, -List.getD_eq_getElem?_getD]) (by simp)⟩
          · omega
          · by_cases e : j = i
            · subst e; exact good
            · exact hf j (by omega)
      | true =>
        ((repeat refine PWp.seq ?_); refine PWp.region TT (by rfl) (fun K hK => ?_); simp only [push_cast, seval, Nat.reduceEqDiff, Nat.reduceLeDiff, reduceCtorEq, hg, hb, wrap64_id (n := (i : Int) + 1) (by omega) (by omega)]; (repeat refine sk ?_); refine hK _ ?_; clear hK K)
        ((repeat refine PWp.seq ?_); refine PWp.cond (by simp only [push_cast, seval, Nat.reduceEqDiff, Nat.reduceLeDiff, reduceCtorEq]; rfl) (fun hc => ?_) (fun hc => ?_))
        · have e := hbad (fun h => (hra.1 h).2 ⟨hb, by simp only [Bool.or_eq_true, Bool.and_eq_true, Bool.not_eq_true', Bool.not_eq_false', Bool.or_eq_false_iff, Bool.and_eq_false_iff, decide_eq_true_eq, decide_eq_false_iff_not, beq_iff_eq, beq_eq_false_iff_ne, bne_iff_ne, bne_eq_false_iff_eq, ne_eq, Classical.not_not, Int.not_lt, Int.not_le, ge_iff_le, gt_iff_lt] at hc; omega⟩)
          ((repeat refine PWp.seq ?_); refine PWp.region TT (by rfl) (fun K hK => ?_); simp only [push_cast, seval, Nat.reduceEqDiff, Nat.reduceLeDiff, reduceCtorEq]; (repeat refine sk ?_); refine hK _ ?_; clear hK K)
          ((repeat refine PWp.seq ?_); refine PWp.ret ?_)
          refine ⟨.inr rfl, by omega, _, [], ?_, rfl, rfl⟩
          rw [e]
          (simp [push_cast, -List.getD_eq_getElem?_getD])
        · have good : rightAt l i := hra.2 ⟨hf2, fun h => by simp only [Bool.or_eq_true, Bool.and_eq_true, Bool.not_eq_true', Bool.not_eq_false', Bool.or_eq_false_iff, Bool.and_eq_false_iff, decide_eq_true_eq, decide_eq_false_iff_not, beq_iff_eq, beq_eq_false_iff_ne, bne_iff_ne, bne_eq_false_iff_eq, ne_eq, Classical.not_not, Int.not_lt, Int.not_le, ge_iff_le, gt_iff_lt] at hc; omega⟩
          clear hc
          ((repeat refine PWp.seq ?_); refine PWp.skip ?_)
          ((repeat refine PWp.seq ?_); refine PWp.region TT (by rfl) (fun K hK => ?_); simp only [push_cast, seval, Nat.reduceEqDiff, Nat.reduceLeDiff, reduceCtorEq, wrap64_id (n := (i : Int) + 1) (by omega) (by omega)]; (repeat refine sk ?_); refine hK _ ?_; clear hK K)
          refine ⟨_, _, ?_, ⟨i + 1, rfl, by omega, fun j hj => ?_, rfl⟩, Gh.le (by simp [push_cast, -List.getD_eq_getElem?_getD]) (by simp)⟩
          · omega
          · by_cases e : j = i
            · subst e; exact good
            · exact hf j (by omega)
  · have hi' : i = l.length := by simp at hc; omega
    subst hi'
    have e : rightB l = true := decide_eq_true hf
    (repeat refine PWp.seq ?_); refine PWp.exit (iteT rfl ?_)
    ((repeat refine PWp.seq ?_); refine PWp.region TT (by rfl) (fun K hK => ?_); simp only [push_cast, seval, Nat.reduceEqDiff, Nat.reduceLeDiff, reduceCtorEq]; (repeat refine sk ?_); refine hK _ ?_; clear hK K)
    ((repeat refine PWp.seq ?_); refine PWp.ret ?_)
    refine ⟨.inr rfl, by omega, _, [], ?_, rfl, rfl⟩
    rw [e]
    (simp [push_cast, -List.getD_eq_getElem?_getD])
end Go.Proofs.Ytmocgjimlhgejaa
namespace Go.Proofs.Ytmocgjimlhgejaa
open Go.PL
set_option maxRecDepth 100000
set_option linter.unusedSimpArgs false
set_option linter.unusedVariables false
theorem match_any {a b : List Ln} {p : List (Int × Int)} (h : matchP a b p) : p.any (diff1 a b) = false := by
  rw [← Bool.not_eq_true, List.any_eq_true]
  rintro ⟨q, hq, hd⟩
  have := h.2.2 q hq
  unfold diff1 at hd
  rw [this] at hd
  simp at hd
theorem match_ok {o a b : List Ln} {oa ob : List (Int × Int)} (ho : o.length ≤ 400) (ha : a.length ≤ 400) (hb : b.length ≤ 400) (h1 : matchP o a oa) (h2 : matchP o b ob) : okOf oa ob o.length a.length b.length = true := by
  simp only [okOf, Bool.and_eq_true, decide_eq_true_eq]
  exact ⟨⟨⟨⟨⟨⟨⟨by omega, by omega⟩, by omega⟩, by omega⟩, by omega⟩, by omega⟩, h1.1⟩, h2.1⟩
theorem match_mof {o a b : List Ln} {oa ob : List (Int × Int)} (ho : o.length ≤ 400) (ha : a.length ≤ 400) (hb : b.length ≤ 400) (h1 : matchP o a oa) (h2 : matchP o b ob) :
    mofE o a b oa ob = 0 ∧ mofL o a b oa ob = pcs o a b (ofL oa ob o.length a.length b.length) := by
  have hok := match_ok ho ha hb h1 h2
  have hE : ofE oa ob o.length a.length b.length = 0 := by unfold ofE; rw [hok]; rfl
  have h0 : mofE o a b oa ob = 0 := by
    unfold mofE
    rw [if_neg (by rw [hE]; decide), match_any h1, match_any h2]
    rfl
  exact ⟨h0, by unfold mofL; rw [if_neg (by rw [h0]; decide)]⟩
theorem sideF_ok (o a b : List Ln) (c : Ck) : 1 ≤ sideF o a b c ∧ sideF o a b c ≤ 4 := by
  unfold sideF
  split
  · omega
  · split
    · omega
    · split <;> omega
theorem match_fits {o a b : List Ln} {oa ob : List (Int × Int)} (ho : o.length ≤ 400) (ha : a.length ≤ 400) (hb : b.length ≤ 400) (h1 : matchP o a oa) (h2 : matchP o b ob) : fitsB o a b (mofL o a b oa ob) = true := by
  have hok := match_ok ho ha hb h1 h2
  rw [(match_mof ho ha hb h1 h2).2]
  unfold fitsB
  rw [Bool.and_eq_true, List.all_eq_true]
  refine ⟨fun p hp => ?_, ?_⟩
  · unfold pcs at hp
    obtain ⟨c, _, rfl⟩ := List.mem_map.1 hp
    have := sideF_ok o a b c
    simp only [sideOk, Bool.and_eq_true, decide_eq_true_eq]
    exact this
  · have : (pcs o a b (ofL oa ob o.length a.length b.length)).map (·.c) = ofL oa ob o.length a.length b.length := by
      unfold pcs
      rw [List.map_map]
      exact List.map_id' _
    rw [this]
    exact ofL_right hok
/-- How many lines a piece has. -/
def cntP (p : Pc) : Int := if p.side = 2 then p.c.an else if p.side = 4 then p.c.an + p.c.on + p.c.bn + 4 else p.c.bn
def cntL : List Pc → Int
  | [] => 0
  | p :: l => cntP p + cntL l
theorem cntL_app (l k : List Pc) : cntL (l ++ k) = cntL l + cntL k := by
  induction l with
  | nil => simp [cntL]
  | cons p l ih => simp only [List.cons_append, cntL, ih]; omega
theorem pieceL_cnt {o a b : List Ln} {p : Pc} (h : inT o a b p.c) : ((pieceL o a b p).length : Int) = cntP p := by
  have l1 := segN_length h.1
  have l2 := segN_length h.2.1
  have l3 := segN_length h.2.2
  unfold pieceL cntP
  split
  · exact l2
  · split
    · simp [markL, mkLs]; omega
    · exact l3
theorem flatP_cnt {o a b : List Ln} : ∀ {l : List Pc}, (∀ p ∈ l, inT o a b p.c) → ((flatP o a b l).length : Int) = cntL l
  | [], _ => rfl
  | p :: l, h => by
    have e : flatP o a b (p :: l) = pieceL o a b p ++ flatP o a b l := by simp [flatP]
    have h1 := pieceL_cnt (h p (List.mem_cons_self ..))
    have h2 := flatP_cnt (l := l) (fun q hq => h q (List.mem_cons_of_mem _ hq))
    rw [e, List.length_append, cntL]
    push_cast
    omega
theorem cnt_small {o a b : List Ln} {p : Pc} (h : inT o a b p.c) (ho : o.length ≤ 40) (ha : a.length ≤ 40) (hb : b.length ≤ 40) : 0 ≤ cntP p ∧ cntP p ≤ 124 ∧ 0 ≤ p.c.on ∧ p.c.on ≤ 40 ∧ 0 ≤ p.c.an ∧ p.c.an ≤ 40 ∧ 0 ≤ p.c.bn ∧ p.c.bn ≤ 40 := by
  obtain ⟨h1, h2, h3⟩ := h
  unfold inL at h1 h2 h3
  unfold cntP
  split
  · omega
  · split <;> omega
theorem cntL_b {o a b : List Ln} (ho : o.length ≤ 40) (ha : a.length ≤ 40) (hb : b.length ≤ 40) : ∀ {l : List Pc}, (∀ p ∈ l, inT o a b p.c) → 0 ≤ cntL l ∧ cntL l ≤ 124 * (l.length : Int)
  | [], _ => by simp [cntL]
  | p :: l, h => by
    have h1 := cnt_small (h p (List.mem_cons_self ..)) ho ha hb
    have h2 := cntL_b ho ha hb (l := l) (fun q hq => h q (List.mem_cons_of_mem _ hq))
    rw [cntL, List.length_cons]
    push_cast
    omega
end Go.Proofs.Ytmocgjimlhgejaa
