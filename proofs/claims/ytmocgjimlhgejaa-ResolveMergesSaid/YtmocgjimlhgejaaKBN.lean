/- ROWS THAT MAY BE WRITTEN: an object that changes, or goes on under a new name. -/
import Derived.Test.YtmocgjimlhgejaaKB6
import Derived.Laws.MakeOwn
namespace Go.PL
open Go.RowKit (Below)
set_option linter.unusedSimpArgs false
set_option linter.unusedVariables false
section
variable {P : Program} {κ κ' : Kx}

theorem look?_rmAt : ∀ (l : List (Nat × Ob)) (k i : Nat), keysNd l → look? (rmAt l k) i = if i = k then none else look? l i
  | [], k, i, _ => by simp [rmAt, look?]
  | (j, o) :: l, k, i, h => by
    simp only [rmAt]
    cases hk : k == j
    · have hkj : k ≠ j := by simpa using hk
      simp only [cond_false, look?, look?_rmAt l k i h.2]
      cases hi : i == j
      · simp
      · have e : i = j := by simpa using hi
        subst e
        have hik : ¬ i = k := fun e => hkj e.symm
        simp [hik]
    · have hkj : k = j := by simpa using hk
      subst hkj
      simp only [cond_true, look?]
      by_cases e : i = k
      · subst e; simp [h.1]
      · simp [e, beq_eq_false_iff_ne.2 e]
theorem keysNd_rmAt : ∀ (l : List (Nat × Ob)) (k : Nat), keysNd l → keysNd (rmAt l k)
  | [], _, h => h
  | (j, o) :: l, k, h => by
    simp only [rmAt]
    cases hk : k == j
    · refine ⟨?_, keysNd_rmAt l k h.2⟩
      rw [look?_rmAt l k j h.2, h.1]
      simp
    · exact h.2

/-- An object changes, and keeps its name. -/
theorem Rel.updOb {N : Nat} {st : St} {a : Act} (h : Rel κ N st a) {k : Nat} {o o' : Ob} (hk : look? st.obj k = some o)
    (hos : κ'.w.os = κ.w.os) (htp : κ'.w.tape = κ.w.tape) (hout : κ'.w.output = κ.w.output) (hsize : κ.w.heap.size ≤ κ'.w.heap.size)
    (hoth : ∀ b, b < κ.w.heap.size → ¬ Own (κ.tk k) b → κ'.w.heap[b]? = κ.w.heap[b]?) (hpk : ∀ a, κ.prot a → ¬ Own (κ.tk k) a.block)
    (htk : κ'.tk = κ.tk) (hn : κ'.n = κ.n) (hF : κ'.F = κ.F) (hp : κ'.prot = κ.prot) (hob : Ext κ κ' → ObR κ' k o') : Rel κ' N (st.setOb k o') a ∧ Ext κ κ' := by
  have hlk := fun b hb => ((h.o.obs k o hk).2.lt (b := b) hb)
  have he : Ext κ κ' := by
    refine ⟨hos, htp, hout, hsize, fok hF, fun b hb => hoth b (h.o.fr b hb) (fun e => (hlk b e).2 hb), fun x hx => ⟨by rw [hp]; exact hx, World.cell?_of_block (hoth _ (prot_lt h.o.prot hx) (hpk x hx))⟩, fun x hx => .inl (by rw [hp] at hx; exact hx)⟩
  have ht : ∀ k, k < κ.n → κ'.tk k = κ.tk k := fun k hk => by rw [htk]
  refine ⟨⟨⟨fun j oj hj => ?_, fun j o1 j' o2 hj hj' hjj c hb1 hb2 => ?_, keysNd_putAt _ _ _ h.o.nd, fun a ha => ?_, fun c hc' => ?_⟩, fun i => ?_, h.size, dfx he h.nodef, by rw [hn]; exact h.nx⟩, he⟩
  · simp only [St.setOb, look?_putAt] at hj
    split at hj
    · rename_i e
      subst e
      rw [hk] at hj
      simp only [Option.map_some, Option.some.injEq] at hj
      subst hj
      exact ⟨by rw [hn]; exact (h.o.obs j o hk).1, hob he⟩
    · rename_i hne
      obtain ⟨h1', h2'⟩ := h.o.obs j oj hj
      refine ⟨by omega, h2'.keep he (fun b hb => by rw [hF] at hb; exact hb) (by omega) ht h1' (fun c hc' => hoth c (h2'.lt hc').1 (fun e => ?_)) (fun a ha => .inl (by rw [hp] at ha; exact ha))⟩
      exact h.o.dis k _ j oj hk hj (fun e => hne e.symm) c e hc'
  · have key : ∀ i oi, look? (putAt st.obj k o') i = some oi → ∃ o', look? st.obj i = some o' := by
      intro i oi hi
      rw [look?_putAt] at hi
      split at hi
      · rename_i e; subst e; exact ⟨_, hk⟩
      · exact ⟨oi, hi⟩
    obtain ⟨o1', h1'⟩ := key j o1 hj
    obtain ⟨o2', h2'⟩ := key j' o2 hj'
    rw [htk] at hb1 hb2
    exact h.o.dis j o1' j' o2' h1' h2' hjj c hb1 hb2
  · rw [hp] at ha
    rw [(he.prot a ha).2]; exact h.o.prot a ha
  · rw [hF] at hc'
    exact Nat.lt_of_lt_of_le (h.o.fr c hc') he.size
  · exact (h.env i).mono he (by omega) ht

/-- An object goes on under a new name. -/
theorem Rel.moveOb {N : Nat} {st : St} {a : Act} (h : Rel κ N st a) {k : Nat} {o o' : Ob} {tv : Value} (hk : look? st.obj k = some o)
    (hos : κ'.w.os = κ.w.os) (htp : κ'.w.tape = κ.w.tape) (hout : κ'.w.output = κ.w.output) (hsize : κ.w.heap.size ≤ κ'.w.heap.size)
    (hoth : ∀ b, b < κ.w.heap.size → ¬ Own (κ.tk k) b → κ'.w.heap[b]? = κ.w.heap[b]?) (hpk : ∀ a, κ.prot a → ¬ Own (κ.tk k) a.block)
    (htk : κ'.tk = updF κ.tk κ.n tv) (hn : κ'.n = κ.n + 1) (hF : κ'.F = κ.F) (hp : κ'.prot = κ.prot) (htv : ∀ b, Own tv b → Own (κ.tk k) b ∨ κ.w.heap.size ≤ b)
    (hob : Ext κ κ' → ObR κ' κ.n o') : Rel κ' N (st.moved k o') a ∧ Ext κ κ' := by
  have hlk := fun b hb => ((h.o.obs k o hk).2.lt (b := b) hb)
  have he : Ext κ κ' := by
    refine ⟨hos, htp, hout, hsize, fok hF, fun b hb => hoth b (h.o.fr b hb) (fun e => (hlk b e).2 hb), fun x hx => ⟨by rw [hp]; exact hx, World.cell?_of_block (hoth _ (prot_lt h.o.prot hx) (hpk x hx))⟩, fun x hx => .inl (by rw [hp] at hx; exact hx)⟩
  have ht : ∀ k, k < κ.n → κ'.tk k = κ.tk k := fun k hk => by rw [htk]; exact updF_ne _ _ (by omega)
  have hkn := (h.o.obs k o hk).1
  have hnone : look? st.obj κ.n = none := by
    cases hl : look? st.obj κ.n with
    | none => rfl
    | some o' => have := (h.o.obs _ _ hl).1; omega
  have hst : (st.moved k o').obj = (κ.n, o') :: rmAt st.obj k := by simp [St.moved, h.nx]
  have hlook : ∀ j oj, look? ((κ.n, o') :: rmAt st.obj k) j = some oj → (j = κ.n ∧ oj = o') ∨ (j ≠ κ.n ∧ j ≠ k ∧ look? st.obj j = some oj) := by
    intro j oj hj
    simp only [look?] at hj
    by_cases e : j = κ.n
    · subst e
      simp at hj
      exact .inl ⟨rfl, hj.symm⟩
    · have hb : (j == κ.n) = false := beq_eq_false_iff_ne.2 e
      rw [hb, cond_false, look?_rmAt _ _ _ h.o.nd] at hj
      split at hj
      · cases hj
      · exact .inr ⟨e, by assumption, hj⟩
  refine ⟨⟨⟨fun j oj hj => ?_, fun j o1 j' o2 hj hj' hjj b hb1 hb2 => ?_, ?_, fun a ha => ?_, fun b hb => ?_⟩, fun i => ?_, h.size, dfx he h.nodef, ?_⟩, he⟩
  · rw [hst] at hj
    rcases hlook j oj hj with ⟨rfl, rfl⟩ | ⟨hjn, hjk, hj⟩
    · exact ⟨by omega, hob he⟩
    · obtain ⟨h1, h2⟩ := h.o.obs j oj hj
      exact ⟨by omega, h2.keep he (fun b hb => by rw [hF] at hb; exact hb) (by omega) ht h1 (fun b hb => hoth b (h2.lt hb).1 (fun e => h.o.dis k o j oj hk hj (fun e => hjk e.symm) b e hb)) (fun a ha => .inl (by rw [hp] at ha; exact ha))⟩
  · rw [hst] at hj hj'
    have new : ∀ j oj b, look? st.obj j = some oj → j ≠ k → Own tv b → Own (κ.tk j) b → False := by
      intro j oj b hj hjk hb1 hb2
      rcases htv b hb1 with e | e
      · exact h.o.dis k o j oj hk hj (fun e => hjk e.symm) b e hb2
      · have := ((h.o.obs j oj hj).2.lt hb2).1; omega
    rcases hlook j o1 hj with ⟨rfl, rfl⟩ | ⟨hjn, hjk, hj1⟩ <;> rcases hlook j' o2 hj' with ⟨rfl, rfl⟩ | ⟨hjn', hjk', hj2⟩
    · exact hjj rfl
    · rw [htk, updF_same] at hb1
      rw [ht j' (h.o.obs j' o2 hj2).1] at hb2
      exact new j' o2 b hj2 hjk' hb1 hb2
    · rw [htk, updF_same] at hb2
      rw [ht j (h.o.obs j o1 hj1).1] at hb1
      exact new j o1 b hj1 hjk hb2 hb1
    · rw [ht j (h.o.obs j o1 hj1).1] at hb1
      rw [ht j' (h.o.obs j' o2 hj2).1] at hb2
      exact h.o.dis j o1 j' o2 hj1 hj2 hjj b hb1 hb2
  · rw [hst]
    refine ⟨?_, keysNd_rmAt _ _ h.o.nd⟩
    rw [look?_rmAt _ _ _ h.o.nd, hnone]
    simp
  · rw [hp] at ha
    rw [(he.prot a ha).2]
    exact h.o.prot a ha
  · rw [hF] at hb
    exact Nat.lt_of_lt_of_le (h.o.fr b hb) he.size
  · exact (h.env i).mono he (by omega) ht
  · simp [St.moved, hn, h.nx]

/-- What a row that may be written is to the kit. -/
theorem mrow_own {obj : List (Nat × Ob)} (hO : RelO κ obj) {k : Nat} {e : TypeId} {sz : Nat} {xs : List IV} (hl : look? obj k = some (.mrow e sz xs)) :
    ∃ (A : Option Addr) (c : Nat) (us : List Value), κ.tk k = .tuple ⟨[.slice A xs.length c]⟩ ∧ κ.w.ownsRow 0 e sz (.slice A xs.length c) xs.length us ∧ us.length = xs.length * sz ∧ (∀ x ∈ xs, x.cells.length = sz) ∧ (∀ u ∈ us, u.oneCell' = true) ∧
      (∀ (j : Nat) (x : IV) (u : Value), (xs.flatMap IV.cells)[j]? = some x → us[j]? = some u → IVR κ.w κ.prot x u) ∧ (∀ b, (Value.slice A xs.length c).ownBlock = some b ↔ Own (κ.tk k) b) ∧ (∀ b, Own (κ.tk k) b → b < κ.w.heap.size ∧ ¬ κ.F b ∧ ∀ a, κ.prot a → a.block ≠ b) := by
  obtain ⟨A, c, us, h1, h2, h3, h4, h5, hm⟩ := (hO.obs k _ hl).2
  refine ⟨A, c, us, h1, ⟨h2, ?_⟩, h2, h3, h4, h5, ?_, ?_⟩
  · rcases hm with ⟨rfl, rfl, rfl⟩ | ⟨b, cur, rfl, hh, hc, hcm, hcs, htk, _⟩
    · exact .inl ⟨rfl, rfl⟩
    · exact .inr ⟨b, c, cur, rfl, Nat.zero_le _, hh, hc, hcm, hcs, htk⟩
  · intro b
    rw [h1]
    cases A <;> exact Iff.rfl
  · intro b hb
    rcases hm with ⟨rfl, rfl, rfl⟩ | ⟨b', cur, rfl, hh, hc, hcm, hcs, htk, h6, h7⟩
    · rw [h1] at hb; cases hb
    · rw [h1] at hb
      injection hb with hb
      subst hb
      exact ⟨(Array.getElem?_eq_some_iff.1 hh).1, h6, h7⟩
theorem ObR.mrow_mk {k : Nat} {e : TypeId} {sz : Nat} {xs : List IV} {A : Option Addr} {c : Nat} {us : List Value} (h1 : κ.tk k = .tuple ⟨[.slice A xs.length c]⟩) (hown : κ.w.ownsRow 0 e sz (.slice A xs.length c) xs.length us)
    (h3 : ∀ x ∈ xs, x.cells.length = sz) (h4 : ∀ u ∈ us, u.oneCell' = true) (h5 : ∀ (j : Nat) (x : IV) (u : Value), (xs.flatMap IV.cells)[j]? = some x → us[j]? = some u → IVR κ.w κ.prot x u)
    (h6 : ∀ b, (Value.slice A xs.length c).ownBlock = some b → ¬ κ.F b ∧ ∀ a, κ.prot a → a.block ≠ b) : ObR κ k (.mrow e sz xs) := by
  refine ⟨A, c, us, h1, hown.1, h3, h4, h5, ?_⟩
  rcases hown.2 with ⟨hv, h0⟩ | ⟨g, cap, cur, hv, _, hh, hc, hcm, hcs, htk⟩
  · simp only [Value.slice.injEq] at hv
    exact .inl ⟨hv.1, List.eq_nil_of_length_eq_zero h0, hv.2.2⟩
  · simp only [Value.slice.injEq] at hv
    obtain ⟨rfl, _, rfl⟩ := hv
    exact .inr ⟨g, cur, rfl, hh, hc, hcm, hcs, htk, h6 g rfl⟩
theorem own_slice {w : World} {e : TypeId} {sz n : Nat} {v : Value} {us : List Value} (h : w.ownsRow 0 e sz v n us) : ∃ A c, v = .slice A n c := by
  rcases h.2 with ⟨rfl, rfl⟩ | ⟨g, cap, cur, rfl, _⟩
  · exact ⟨none, 0, rfl⟩
  · exact ⟨_, _, rfl⟩
theorem blk_tup (A : Option Addr) (n c b : Nat) : Own (.tuple ⟨[.slice A n c]⟩) b = ((Value.slice A n c).ownBlock = some b) := by cases A <;> rfl
theorem nprot_of_block {k : Nat} (h : ∀ b, Own (κ.tk k) b → b < κ.w.heap.size ∧ ¬ κ.F b ∧ ∀ a, κ.prot a → a.block ≠ b) : ∀ a, κ.prot a → ¬ Own (κ.tk k) a.block :=
  fun a ha e => (h _ e).2.2 a ha rfl

/-- append onto a row that may be written. -/
theorem append_m_ok {N : Nat} {st : St} {a : Act} (h : Rel κ N st a) {t e : TypeId} {d : TD} (hd : DOK P e d) (hk : d.known = true) (hsz : 0 < d.size) {k : Nat} {xs ys : List IV} (hl : look? st.obj k = some (.mrow e d.size xs)) {v : Value} (hx : TVR κ (.mrow k) v)
    {us : List Value} {t2 : TypeId} {u2 : Value} {ty : TypeId} (hul : us.length = ys.length * d.size) (hu1 : ∀ w ∈ us, w.oneCell' = true)
    (hR : ∀ (v : Value) (n : Nat) (os : List Value), κ.w.ownsRow 0 e d.size v n os → n + ys.length ≤ maxLen → (n + ys.length) * d.bytes ≤ 140737488355328 → ∃ v' w', (Builtin.append_ #[t, t2] ty #[v, u2]).run P κ.w = .ok v' w' ∧ w'.ownsRow 0 e d.size v' (n + ys.length) (os ++ us) ∧
      ((v'.ownBlock = v.ownBlock ∧ κ.w.grownBy w' v.ownBlock) ∨ (v'.ownBlock = some κ.w.heap.size ∧ κ.w.grownBy w' none)))
    (huv : ∀ (j : Nat) (x : IV) (w : Value), (ys.flatMap IV.cells)[j]? = some x → us[j]? = some w → IVR κ.w κ.prot x w) (hysz : ∀ x ∈ ys, x.cells.length = d.size)
    (hb1 : (xs.length + ys.length) * d.bytes ≤ 140737488355328) (hb2 : xs.length + ys.length ≤ 4294967296) :
    ∃ κ' v', (Builtin.append_ #[t, t2] ty #[v, u2]).run P κ.w = .ok v' κ'.w ∧ Rel κ' N (st.moved k (.mrow e d.size (xs ++ ys))) a ∧ Ext κ κ' ∧ (∀ m, m ≤ κ.n → Keep m κ κ') ∧ TVR κ' (.mrow st.nx) v' := by
  obtain ⟨A0, c0, os, htk0, hown, hol, hxsz, ho1, hov, hblk, hblt⟩ := mrow_own h.o hl
  obtain ⟨A1, c1, htk1, rfl⟩ := mrow_at h.o hl hx
  rw [htk0] at htk1
  simp only [Value.tuple.injEq, Array.mk.injEq, List.cons.injEq, Value.slice.injEq, and_true, true_and] at htk1
  obtain ⟨rfl, rfl⟩ := htk1
  obtain ⟨v', w', hrun, hown', hg⟩ := hR _ xs.length os hown (by simp only [maxLen]; omega) hb1
  obtain ⟨A', c', rfl⟩ := own_slice hown'
  have hlen' : (xs ++ ys).length = xs.length + ys.length := List.length_append
  let κ' : Kx := ⟨w', κ.prot, κ.F, updF κ.tk κ.n (.tuple ⟨[.slice A' (xs.length + ys.length) c']⟩), κ.n + 1⟩
  have hgg : κ.w.grownBy w' (Value.slice A0 xs.length c0).ownBlock := by
    rcases hg with ⟨_, hg⟩ | ⟨_, hg⟩
    · exact hg
    · exact ⟨hg.os, hg.tape, hg.output, hg.size, fun j hj _ => hg.block j hj (by simp)⟩
  have hm := h.moveOb (κ' := κ') (o' := .mrow e d.size (xs ++ ys)) (tv := .tuple ⟨[.slice A' (xs.length + ys.length) c']⟩) hl hgg.os hgg.tape hgg.output hgg.size
    (fun b hb hne => hgg.block b hb (fun e => hne (by rw [← hblk, e]))) (nprot_of_block hblt) rfl rfl rfl rfl
    (fun b hb => by
      rw [blk_tup] at hb
      rcases hg with ⟨e1, _⟩ | ⟨e1, _⟩
      · rw [e1] at hb; exact .inl ((hblk _).1 hb)
      · rw [e1] at hb; injection hb with hb; exact .inr (by omega))
    (fun he => by
      refine ObR.mrow_mk (κ := κ') (A := A') (c := c') (us := os ++ us) (by rw [hlen']; exact updF_same _ _ _) (by rw [hlen']; exact hown') (fun x hx => (List.mem_append.1 hx).elim (hxsz x) (hysz x)) (fun w hw => (List.mem_append.1 hw).elim (ho1 w) (hu1 w)) (fun j x w hxj hw => ?_) (fun b hb => ?_)
      · rw [List.flatMap_append] at hxj
        have hfl : (xs.flatMap IV.cells).length = os.length := by rw [flat_length xs hxsz, hol]
        by_cases hj : j < os.length
        · rw [List.getElem?_append_left hj] at hw
          rw [List.getElem?_append_left (by rw [hfl]; exact hj)] at hxj
          exact he.iv (hov j x w hxj hw)
        · rw [List.getElem?_append_right (by omega)] at hw
          rw [List.getElem?_append_right (by rw [hfl]; omega), hfl] at hxj
          exact he.iv (huv _ x w hxj hw)
      · rw [hlen'] at hb
        rcases hg with ⟨e1, _⟩ | ⟨e1, _⟩
        · rw [e1, hblk] at hb
          exact ⟨(hblt b hb).2.1, (hblt b hb).2.2⟩
        · rw [e1] at hb
          injection hb with hb
          refine ⟨fun hf => by have := h.o.fr b hf; omega, fun a ha e => by have := prot_lt h.o.prot ha; omega⟩)
  refine ⟨κ', _, hrun, hm.1, hm.2, fun m hm' => ⟨Nat.le_succ_of_le hm', fun j hj _ => updF_ne _ _ (by omega)⟩, ?_⟩
  exact .mrow st.nx _ _ _ (by rw [← h.nx]; exact Nat.lt_succ_self _) (by rw [← h.nx]; exact updF_same _ _ _)
theorem flat_set {sz : Nat} {xs : List IV} (h : ∀ x ∈ xs, x.cells.length = sz) {i : Nat} (hi : i < xs.length) (y : IV) :
    (xs.set i y).flatMap IV.cells = (xs.flatMap IV.cells).take (i * sz) ++ y.cells ++ (xs.flatMap IV.cells).drop (i * sz + sz) := by
  rw [List.set_eq_take_append_cons_drop, if_pos hi, List.flatMap_append, List.flatMap_cons, flat_take i xs h, flat_drop (i + 1) xs h, Nat.succ_mul, List.append_assoc]
theorem take_mid {α : Type} (l : List α) (p : Nat) (t : List α) (L : Nat) (h1 : p + t.length ≤ L) (h2 : L ≤ l.length) : (l.take p ++ t ++ l.drop (p + t.length)).take L = (l.take L).take p ++ t ++ (l.take L).drop (p + t.length) := by
  have hl : (l.take p ++ t).length = p + t.length := by rw [List.length_append, List.length_take]; omega
  rw [List.take_append, List.take_of_length_le (l := l.take p ++ t) (by omega), hl, List.take_take, Nat.min_eq_left (by omega), List.drop_take]
/-- An element's cells are written. -/
theorem mstore_ok {N : Nat} {st : St} {a : Act} (h : Rel κ N st a) {k : Nat} {e : TypeId} {sz : Nat} {xs : List IV} (hl : look? st.obj k = some (.mrow e sz xs)) {i off b n c : Nat} (hb : κ.tk k = .tuple ⟨[.slice (some ⟨b, 0, none⟩) n c]⟩) (hi : i < xs.length)
    {tc : List IV} {tv : List Value} (hct : CR κ.w κ.prot tc tv) (hoff : off + tc.length ≤ sz) {y : IV} (hy : y.cells = (xs.getD i .any).cells.take off ++ tc ++ (xs.getD i .any).cells.drop (off + tc.length)) :
    ∃ w', (storeCells ⟨b, i * sz + off, none⟩ tv).run P κ.w = .ok () w' ∧ Rel ⟨w', κ.prot, κ.F, κ.tk, κ.n⟩ N (st.setOb k (.mrow e sz (xs.set i y))) a ∧ Ext κ ⟨w', κ.prot, κ.F, κ.tk, κ.n⟩ := by
  obtain ⟨A0, c0, us, htk0, hul, hxsz, ho1, hov, hm⟩ := (h.o.obs k _ hl).2
  have htk1 := htk0
  rw [hb] at htk1
  simp only [Value.tuple.injEq, Array.mk.injEq, List.cons.injEq, Value.slice.injEq, and_true] at htk1
  obtain ⟨rfl, rfl, rfl⟩ := htk1
  obtain ⟨hA, _⟩ | ⟨b', cur, hA, hh, hc, hcm, hcs, htake, hF, hP⟩ := hm
  · cases hA
  injection hA with hA
  injection hA with hA
  subst hA
  have hblk : Own (κ.tk k) b := by rw [hb]; rfl
  have hle : (i + 1) * sz ≤ xs.length * sz := Nat.mul_le_mul_right _ hi
  have hlec : xs.length * sz ≤ cur.size := by rw [hcs]; exact Nat.mul_le_mul_right _ hc
  rw [Nat.succ_mul] at hle
  have htl : tv.length = tc.length := hct.1
  have hrun := run_storeCells_at P b (i * sz + off) e tv 0 cur κ.w hh (by omega) hct.2.1
  simp only [Nat.add_zero] at hrun
  refine ⟨_, by simpa [storeCells] using hrun, ?_⟩
  have hx : xs.getD i .any = xs[i] := by simp [List.getD, hi]
  have hxl : (xs.getD i .any).cells.length = sz := by rw [hx]; exact hxsz _ (List.getElem_mem hi)
  have hyl : y.cells.length = sz := by rw [hy]; simp only [List.length_append, List.length_take, List.length_drop]; omega
  have hfl : (xs.flatMap IV.cells).length = xs.length * sz := flat_length xs hxsz
  have hel : (xs.getD i .any).cells = ((xs.flatMap IV.cells).drop (i * sz)).take sz := by
    apply List.ext_getElem?
    intro j
    rw [List.getElem?_take]
    split
    · rename_i hj
      rw [List.getElem?_drop, flat_get xs hxsz hi hj]
    · exact List.getElem?_eq_none (by omega)
  have hold : CR κ.w κ.prot (xs.flatMap IV.cells) us := ⟨by rw [hul, hfl], ho1, hov⟩
  have hnew : CR κ.w κ.prot ((xs.set i y).flatMap IV.cells) (us.take (i * sz + off) ++ tv ++ us.drop (i * sz + off + tv.length)) := by
    have : (xs.set i y).flatMap IV.cells = (xs.flatMap IV.cells).take (i * sz + off) ++ tc ++ (xs.flatMap IV.cells).drop (i * sz + off + tv.length) := by
      have f1 : (xs.flatMap IV.cells).take (i * sz + off) = (xs.flatMap IV.cells).take (i * sz) ++ ((xs.flatMap IV.cells).drop (i * sz)).take off := List.take_add
      have f2 : (((xs.flatMap IV.cells).drop (i * sz)).take sz).take off = ((xs.flatMap IV.cells).drop (i * sz)).take off := by rw [List.take_take, Nat.min_eq_left (by omega)]
      have f3 : (xs.flatMap IV.cells).drop (i * sz + off + tc.length) = (((xs.flatMap IV.cells).drop (i * sz)).take sz).drop (off + tc.length) ++ (xs.flatMap IV.cells).drop (i * sz + sz) := by
        have g1 : (xs.flatMap IV.cells).drop (i * sz + sz) = ((xs.flatMap IV.cells).drop (i * sz + off + tc.length)).drop (sz - (off + tc.length)) := by
          rw [List.drop_drop]; congr 1; omega
        have g2 : (((xs.flatMap IV.cells).drop (i * sz)).take sz).drop (off + tc.length) = ((xs.flatMap IV.cells).drop (i * sz + off + tc.length)).take (sz - (off + tc.length)) := by
          rw [List.drop_take, List.drop_drop]; congr 2; omega
        rw [g1, g2, List.take_append_drop]
      rw [flat_set hxsz hi y, hy, hel, htl, f1, f2, f3]
      simp only [List.append_assoc]
    rw [this]
    exact ((hold.take _).app hct).app (hold.drop _)
  refine h.updOb hl rfl rfl rfl (by simp [World.setRow]) (fun b' _ hne' => setRow_other _ _ _ _ (fun e' => hne' (by rw [e']; exact hblk))) (fun a ha e' => hP a ha (by rw [hb] at e'; injection e' with e'; exact e'.symm)) rfl rfl rfl rfl (fun he => ?_)
  refine ⟨some ⟨b, 0, none⟩, c, us.take (i * sz + off) ++ tv ++ us.drop (i * sz + off + tv.length), ?_, ?_, fun x hx' => ?_, hnew.2.1, fun j x u hxj hu => he.iv (hnew.2.2 j x u hxj hu), .inr ⟨b, _, rfl, setRow_heap _ _ _ _ _ _ hh, ?_, ?_, ?_, ?_, hF, hP⟩⟩
  · rw [List.length_set]; exact hb
  · rw [List.length_set]; simp only [List.length_append, List.length_take, List.length_drop]; omega
  · rcases List.mem_or_eq_of_mem_set hx' with h' | rfl
    · exact hxsz x h'
    · exact hyl
  · rw [List.length_set]; exact hc
  · exact hcm
  · simp only [List.size_toArray, List.length_append, List.length_take, List.length_drop, Array.length_toList]
    omega
  · rw [List.length_set, ← htake]
    have hL : xs.length * sz ≤ cur.toList.length := by rw [Array.length_toList]; exact hlec
    have hT := take_mid cur.toList (i * sz + off) tv (xs.length * sz) (by omega) hL
    simpa using hT

theorem pinToks_set : ∀ (rs : List (Nat × List IV)) (b : Nat) (ys : List IV), pinToks (pinSet rs b ys) = pinToks rs
  | [], _, _ => rfl
  | (c, xs) :: l, b, ys => by
    simp only [pinSet]
    cases c == b
    · simp [pinToks, pinToks_set l b ys]
    · rfl
theorem pinSet_mem : ∀ {rs : List (Nat × List IV)} {b : Nat} {ys : List IV} {c : Nat} {zs : List IV}, pinNd rs → (c, zs) ∈ pinSet rs b ys → (c = b ∧ zs = ys) ∨ (c ≠ b ∧ (c, zs) ∈ rs)
  | [], _, _, _, _, _, h => by cases h
  | (d, xs) :: l, b, ys, c, zs, hn, h => by
    simp only [pinSet] at h
    cases hb : d == b
    · rw [hb] at h
      have hne : d ≠ b := by simpa using hb
      rcases List.mem_cons.1 h with e | h
      · simp only [Prod.mk.injEq] at e
        obtain ⟨rfl, rfl⟩ := e
        exact .inr ⟨hne, List.mem_cons_self ..⟩
      · rcases pinSet_mem hn.2 h with h | ⟨h1, h2⟩
        · exact .inl h
        · exact .inr ⟨h1, List.mem_cons_of_mem _ h2⟩
    · rw [hb] at h
      have e : d = b := by simpa using hb
      subst e
      simp only [cond_true] at h
      rcases List.mem_cons.1 h with e | h2
      · simp only [Prod.mk.injEq] at e
        exact .inl e
      · refine .inr ⟨fun e => ?_, List.mem_cons_of_mem _ h2⟩
        subst e
        exact hn.1 _ h2
theorem pinSet_old : ∀ {rs : List (Nat × List IV)} {b : Nat} {ys : List IV} {c : Nat} {zs : List IV}, (c, zs) ∈ pinSet rs b ys → ∃ ws, (c, ws) ∈ rs
  | [], _, _, _, _, h => by cases h
  | (d, xs) :: l, b, ys, c, zs, h => by
    simp only [pinSet] at h
    cases hb : d == b
    · rw [hb] at h
      rcases List.mem_cons.1 h with e | h
      · simp only [Prod.mk.injEq] at e
        exact ⟨xs, by rw [e.1]; exact List.mem_cons_self ..⟩
      · obtain ⟨ws, h⟩ := pinSet_old h
        exact ⟨ws, List.mem_cons_of_mem _ h⟩
    · rw [hb] at h
      rcases List.mem_cons.1 h with e | h
      · simp only [Prod.mk.injEq] at e
        exact ⟨xs, by rw [e.1]; exact List.mem_cons_self ..⟩
      · exact ⟨zs, List.mem_cons_of_mem _ h⟩
theorem pinNd_set : ∀ {rs : List (Nat × List IV)} {b : Nat} {ys : List IV}, pinNd rs → pinNd (pinSet rs b ys)
  | [], _, _, h => h
  | (d, xs) :: l, b, ys, h => by
    simp only [pinSet]
    cases d == b
    · refine ⟨fun zs hz => ?_, pinNd_set h.2⟩
      obtain ⟨ws, hw⟩ := pinSet_old hz
      exact h.1 ws hw
    · exact h
/-- A store into a row of a known block. -/
theorem pstore_ok {N : Nat} {st : St} {a : Act} (h : Rel κ N st a) {b k off : Nat} {e : TypeId} {rs : List (Nat × List IV)} {xs : List IV} (hl : pinLook st.obj b = some (k, e, rs, xs)) (hi : off < xs.length) {y : IV} {v : Value} (hy : IVR κ.w κ.prot y v) (h1 : v.oneCell' = true) :
    ∃ w', (storeCells ⟨b, off, none⟩ [v]).run P κ.w = .ok () w' ∧ Rel { κ with w := w' } N (st.setOb k (.pins e (pinSet rs b (xs.set off y)))) a ∧ Ext κ { κ with w := w' } := by
  obtain ⟨g1, g2⟩ := pinLook_spec h.o.nd hl
  obtain ⟨_, htk, hnd, hpr⟩ := h.o.obs k _ g1
  obtain ⟨us, f1, f2, f3, f4, f5, f6⟩ := hpr b xs g2
  have hown : Own (κ.tk k) b := by rw [htk]; exact (own_pins rs b).2 ⟨xs, g2⟩
  have hrun := run_storeCells_at P b off e [v] 0 us.toArray κ.w f1 (by simp; omega) (fun u hu => by simp at hu; subst hu; exact h1)
  simp only [Nat.add_zero] at hrun
  refine ⟨_, hrun, ?_⟩
  refine h.updOb g1 rfl rfl rfl (by simp [World.setRow]) (fun b' _ hne' => setRow_other _ _ _ _ (fun e' => hne' (by rw [e']; exact hown))) (fun x hx ho => ?_) rfl rfl rfl rfl (fun he => ?_)
  · rw [htk] at ho
    obtain ⟨zs, hz⟩ := (own_pins rs _).1 ho
    obtain ⟨_, _, _, _, _, _, q6⟩ := hpr _ zs hz
    exact q6 x hx rfl
  · refine ⟨by rw [pinToks_set]; exact htk, pinNd_set hnd, fun c zs hz => ?_⟩
    rcases pinSet_mem hnd hz with ⟨rfl, rfl⟩ | ⟨hne, hz⟩
    · have hL : us.take off ++ [v] ++ us.drop (off + 1) = us.set off v := by
        rw [List.set_eq_take_append_cons_drop, if_pos (by omega)]; simp
      refine ⟨us.set off v, ?_, by simp [f2], fun j x u hx hu => ?_, fun u hu => ?_, f5, f6⟩
      · rw [← hL]
        have := setRow_heap κ.w c us.toArray (us.take off ++ [v] ++ us.drop (off + 1)).toArray e (0, 0) f1
        simpa using this
      · by_cases hj : j = off
        · subst hj
          rw [List.getElem?_set_self (by omega)] at hx hu
          simp only [Option.some.injEq] at hx hu
          subst hx; subst hu
          exact he.iv hy
        · rw [List.getElem?_set_ne (fun e => hj e.symm)] at hx hu
          exact he.iv (f3 j x u hx hu)
      · rcases List.mem_or_eq_of_mem_set hu with h' | rfl
        · exact f4 u h'
        · exact h1
    · obtain ⟨vs, q1, q2, q3, q4, q5, q6⟩ := hpr c zs hz
      exact ⟨vs, (setRow_other _ _ _ _ hne).trans q1, q2, fun j x u hx hu => he.iv (q3 j x u hx hu), q4, q5, q6⟩

theorem pinToks_app : ∀ (rs qs : List (Nat × List IV)), pinToks (rs ++ qs) = pinToks rs ++ pinToks qs
  | [], _ => rfl
  | (c, xs) :: l, qs => by simp [pinToks, pinToks_app l qs]
theorem pinNd_app : ∀ {rs : List (Nat × List IV)} {b : Nat} {xs : List IV}, pinNd rs → (∀ ys, (b, ys) ∉ rs) → pinNd (rs ++ [(b, xs)])
  | [], b, xs, _, _ => ⟨fun ys h => (by cases h), trivial⟩
  | (c, zs) :: l, b, xs, h, hb => by
    refine ⟨fun ys hy => ?_, pinNd_app h.2 (fun ys hy => hb ys (List.mem_cons_of_mem _ hy))⟩
    rcases List.mem_append.1 hy with hy | hy
    · exact h.1 ys hy
    · simp only [List.mem_singleton, Prod.mk.injEq] at hy
      exact hb zs (by rw [← hy.1]; exact List.mem_cons_self ..)
theorem flat_ones : ∀ (l : List IV), (∀ x ∈ l, x.cells = [x]) → l.flatMap IV.cells = l
  | [], _ => rfl
  | x :: l, h => by rw [List.flatMap_cons, h x (List.mem_cons_self ..), flat_ones l (fun y hy => h y (List.mem_cons_of_mem _ hy))]; rfl
/-- A row becomes one of known blocks. -/
theorem pin_rel {N : Nat} {st : St} {a : Act} (h : Rel κ N st a) {k K b : Nat} {e : TypeId} {xs : List IV} {rs : List (Nat × List IV)} (hk : look? st.obj k = some (.mrow e 1 xs)) (hK : look? st.obj K = some (.pins e rs))
    (htk : κ.tk k = .tuple ⟨[.slice (some ⟨b, 0, none⟩) xs.length xs.length]⟩) (hne : K ≠ k) (hone : ∀ x ∈ xs, x.cells = [x]) :
    (∀ ys, (b, ys) ∉ rs) ∧ ∃ κ' : Kx, κ'.w = κ.w ∧ κ'.n = κ.n + 1 ∧ Rel κ' N ⟨st.env, (st.nx, .pins e (rs ++ [(b, xs)])) :: rmAt (rmAt st.obj k) K, st.nx + 1⟩ a ∧ Ext κ κ' ∧ ∀ m, m ≤ κ.n → Keep m κ κ' := by
  have hownk : Own (κ.tk k) b := by rw [htk]; rfl
  obtain ⟨_, hKt, hKn, hKr⟩ := h.o.obs K _ hK
  have hfresh : ∀ ys, (b, ys) ∉ rs := fun ys hy => h.o.dis K _ k _ hK hk hne b (by rw [hKt]; exact (own_pins rs b).2 ⟨ys, hy⟩) hownk
  refine ⟨hfresh, ?_⟩
  let tok : Value := .tuple ⟨.bool true :: pinToks (rs ++ [(b, xs)])⟩
  let κ' : Kx := ⟨κ.w, κ.prot, κ.F, updF κ.tk κ.n tok, κ.n + 1⟩
  have he : Ext κ κ' := ⟨rfl, rfl, rfl, Nat.le_refl _, ⟨fun _ h => h, rfl⟩, fun _ _ => rfl, fun _ h => ⟨h, rfl⟩, fun _ h => .inl h⟩
  have ht : ∀ j, j < κ.n → κ'.tk j = κ.tk j := fun j hj => updF_ne _ _ (by omega)
  have hnew : κ'.tk κ.n = tok := updF_same _ _ _
  have hnd1 := keysNd_rmAt st.obj k h.o.nd
  have hlk : ∀ j o, look? (rmAt (rmAt st.obj k) K) j = some o → j ≠ k ∧ j ≠ K ∧ look? st.obj j = some o := by
    intro j o hj
    rw [look?_rmAt _ _ _ hnd1] at hj
    split at hj
    · cases hj
    · rename_i h1
      rw [look?_rmAt _ _ _ h.o.nd] at hj
      split at hj
      · cases hj
      · rename_i h2
        exact ⟨h2, h1, hj⟩
  have hnx : κ.n = st.nx := h.nx
  have hcase : ∀ j o, look? ((st.nx, Ob.pins e (rs ++ [(b, xs)])) :: rmAt (rmAt st.obj k) K) j = some o → (j = st.nx ∧ o = .pins e (rs ++ [(b, xs)])) ∨ (j < κ.n ∧ j ≠ k ∧ j ≠ K ∧ look? st.obj j = some o) := by
    intro j o hj
    simp only [look?] at hj
    cases hb : j == st.nx
    · rw [hb, cond_false] at hj
      obtain ⟨h1, h2, h3⟩ := hlk j o hj
      exact .inr ⟨(h.o.obs j o h3).1, h1, h2, h3⟩
    · rw [hb, cond_true] at hj
      simp only [Option.some.injEq] at hj
      exact .inl ⟨by simpa using hb, hj.symm⟩
  have hmem : ∀ c zs, (c, zs) ∈ rs ++ [(b, xs)] → (c, zs) ∈ rs ∨ (c = b ∧ zs = xs) := by
    intro c zs hz
    rcases List.mem_append.1 hz with hz | hz
    · exact .inl hz
    · simp only [List.mem_singleton, Prod.mk.injEq] at hz
      exact .inr hz
  have hownN : ∀ c, Own tok c → Own (κ.tk K) c ∨ c = b := by
    intro c hc
    obtain ⟨zs, hz⟩ := (own_pins _ c).1 hc
    rcases hmem c zs hz with hz | ⟨e, _⟩
    · exact .inl (by rw [hKt]; exact (own_pins rs c).2 ⟨zs, hz⟩)
    · exact .inr e
  refine ⟨κ', rfl, rfl, ⟨⟨fun j o hj => ?_, fun j o1 j' o2 hj hj' hjj c hc1 hc2 => ?_, ⟨?_, keysNd_rmAt _ _ hnd1⟩, h.o.prot, h.o.fr⟩, fun i => (h.env i).mono he (Nat.le_succ _) ht, h.size, dfx he h.nodef, by show κ.n + 1 = st.nx + 1; rw [hnx]⟩, he, fun m hm => ⟨Nat.le_succ_of_le hm, fun j hj _ => updF_ne _ _ (by omega)⟩⟩
  · rcases hcase j o hj with ⟨rfl, rfl⟩ | ⟨h1, h2, h3, h4⟩
    · refine ⟨by show st.nx < κ.n + 1; omega, by rw [← hnx]; exact hnew, pinNd_app hKn hfresh, fun c zs hz => ?_⟩
      rcases hmem c zs hz with hz | ⟨rfl, rfl⟩
      · exact hKr c zs hz
      · obtain ⟨_, A, c0, us, e1, e2, e3, e4, e5, hm⟩ := h.o.obs k _ hk
        rw [htk] at e1
        simp only [Value.tuple.injEq, Array.mk.injEq, List.cons.injEq, Value.slice.injEq, and_true, true_and] at e1
        obtain ⟨rfl, rfl⟩ := e1
        obtain ⟨hA, _⟩ | ⟨b', cur, hA, hh, hc, hcm, hcs, htake, hF, hP⟩ := hm
        · cases hA
        · injection hA with hA
          injection hA with hA
          subst hA
          have hus : us = cur.toList := by
            rw [← htake]
            exact List.take_of_length_le (by rw [Array.length_toList, hcs]; exact Nat.le_refl _)
          refine ⟨cur.toList, by simpa using hh, by rw [← hus, e2, Nat.mul_one], fun j x u hx hu => ?_, fun u hu => e4 u (by rw [hus]; exact hu), hF, hP⟩
          exact e5 j x u (by rw [flat_ones _ hone]; exact hx) (by rw [hus]; exact hu)
    · obtain ⟨q1, q2⟩ := h.o.obs j o h4
      exact ⟨Nat.lt_succ_of_lt q1, q2.keep he (fun _ h => h) (Nat.le_succ _) ht q1 (fun _ _ => rfl) (fun a ha => .inl ha)⟩
  · rcases hcase j o1 hj with ⟨rfl, rfl⟩ | ⟨h1, h2, h3, h4⟩
    · rcases hcase j' o2 hj' with ⟨rfl, rfl⟩ | ⟨h1', h2', h3', h4'⟩
      · exact hjj rfl
      · rw [← hnx, hnew] at hc1
        rw [ht j' h1'] at hc2
        rcases hownN c hc1 with hc | rfl
        · exact h.o.dis K _ j' o2 hK h4' (fun e => h3' e.symm) c hc hc2
        · exact h.o.dis k _ j' o2 hk h4' (fun e => h2' e.symm) c hownk hc2
    · rw [ht j h1] at hc1
      rcases hcase j' o2 hj' with ⟨rfl, rfl⟩ | ⟨h1', h2', h3', h4'⟩
      · rw [← hnx, hnew] at hc2
        rcases hownN c hc2 with hc | rfl
        · exact h.o.dis j o1 K _ h4 hK h3 c hc1 hc
        · exact h.o.dis j o1 k _ h4 hk h2 c hc1 hownk
      · rw [ht j' h1'] at hc2
        exact h.o.dis j o1 j' o2 h4 h4' hjj c hc1 hc2
  · cases hq : look? (rmAt (rmAt st.obj k) K) st.nx with
    | none => rfl
    | some o =>
      have := (h.o.obs _ o (hlk _ o hq).2.2).1
      omega
/-- A row made. -/
theorem make_ok {N : Nat} {st : St} {a : Act} (h : Rel κ N st a) {t e : TypeId} {d : TD} (hu : P.underlying t = some (.slice e)) (hd : DOK P e d) (hk : d.known = true) (hsz : 0 < d.size) {n : Int} (h0 : 0 ≤ n) (hb1 : n * d.bytes ≤ 140737488355328) (hb2 : n ≤ 4294967296) :
    ∃ κ' v', (Instr.makeSlice t (.int .i64 n) (.int .i64 n)).run P κ.w = .ok v' κ'.w ∧ Rel κ' N (st.new (.mrow e d.size (List.replicate n.toNat (zElem d)))) a ∧ Ext κ κ' ∧ (∀ m, m ≤ κ.n → Keep m κ κ') ∧ TVR κ' (.mrow st.nx) v' ∧ v' = .slice (some ⟨κ.w.heap.size, 0, none⟩) n.toNat n.toNat ∧ κ'.tk κ.n = .tuple ⟨[v']⟩ := by
  obtain ⟨i, desc, z, hi, hue, hisz, hby, hag, _, hz, hzc, hz1, hzl, _, hz0⟩ := hd hk
  have hrun := run_make (P := P) κ.w t e i z hu hi hz .i64 .i64 n n h0 (Int.le_refl _) (by rw [hby, Int.mul_comm]; omega) (by omega)
  have hzs : z.cells.size = d.size := by rw [← hzl, ← hzc]; simp
  have hzel : (zElem d).cells = zIVs d.zero := by
    unfold zElem
    cases hg : d.agg
    · simp only [cond_false]
      rw [hz0 hg]
      simp only [zIVs, List.getD_cons_zero]
      unfold zIV
      split <;> rfl
    · rfl
  let tv : Value := .slice (some ⟨κ.w.heap.size, 0, none⟩) n.toNat n.toNat
  let C := madeCells z.cells (n.toNat * i.size)
  let κ' : Kx := ⟨κ.w.alloc (.cells C e), κ.prot, κ.F, updF κ.tk κ.n (.tuple ⟨[tv]⟩), κ.n + 1⟩
  have htk : κ'.tk κ.n = .tuple ⟨[tv]⟩ := updF_same _ _ _
  have hCs : C.size = n.toNat * d.size := by simp [C, madeCells, hisz]
  have hCg : ∀ j, j < n.toNat * d.size → C.toList[j]? = d.zero[j % d.size]? := by
    intro j hj
    have hlt : j % d.size < d.zero.length := by rw [hzl]; exact Nat.mod_lt _ hsz
    have hlt' : j % z.cells.size < z.cells.size := by rw [hzs]; exact Nat.mod_lt _ hsz
    have hjr : (Array.range (n.toNat * i.size))[j]? = some j := by simp [Array.getElem?_range, hisz, hj]
    simp only [C, madeCells, Array.getElem?_toList, Array.getElem?_map, hjr, Option.map_some]
    rw [← hzc, Array.getElem?_toList, getElem!_pos z.cells _ hlt', ← hzs]
    simp [hlt']
  have hfl : ∀ j, j < n.toNat * d.size → ((List.replicate n.toNat (zElem d)).flatMap IV.cells)[j]? = (zIVs d.zero)[j % d.size]? := by
    intro j hj
    have hq : j / d.size < n.toNat := (Nat.div_lt_iff_lt_mul hsz).2 hj
    have e1 : j = (j / d.size) * d.size + j % d.size := by rw [Nat.mul_comm]; exact (Nat.div_add_mod _ _).symm
    conv => lhs; rw [e1]
    rw [flat_get (sz := d.size) _ (fun x hx => by rw [List.eq_of_mem_replicate hx, hzel, zIVs_length, hzl]) (by simpa using hq) (Nat.mod_lt _ hsz)]
    have : (List.replicate n.toNat (zElem d)).getD (j / d.size) .any = zElem d := by simp [List.getD, hq]
    rw [this, hzel]
  have hm := h.newOb (κ' := κ') (o := .mrow e d.size (List.replicate n.toNat (zElem d))) (ob := .cells C e) (tv := .tuple ⟨[tv]⟩) rfl rfl rfl rfl rfl (fun b hb => by injection hb with hb; exact hb.symm)
    ⟨some ⟨κ.w.heap.size, 0, none⟩, n.toNat, C.toList, by rw [htk, List.length_replicate], by rw [List.length_replicate, Array.length_toList, hCs], fun x hx => by rw [List.eq_of_mem_replicate hx, hzel, zIVs_length, hzl],
      fun u hu => by
        obtain ⟨j, hj⟩ := List.getElem?_of_mem hu
        have hjl : j < C.toList.length := (List.getElem?_eq_some_iff.1 hj).1
        rw [Array.length_toList, hCs] at hjl
        rw [hCg j hjl] at hj
        exact hz1 u (List.mem_of_getElem? hj),
      fun j x u hxj hu => by
        have hjl : j < C.toList.length := (List.getElem?_eq_some_iff.1 hu).1
        rw [Array.length_toList, hCs] at hjl
        rw [hCg j hjl] at hu
        rw [hfl j hjl, zIVs_get, hu] at hxj
        simp only [Option.map_some, Option.some.injEq] at hxj
        subst hxj
        exact zIV_ok _ _ u,
      .inr ⟨κ.w.heap.size, C, rfl, by show (κ.w.alloc _).heap[_]? = _; rw [heap_alloc_new], by rw [List.length_replicate]; exact Nat.le_refl _, by simp only [maxLen]; omega, hCs, by rw [List.length_replicate, ← hCs]; exact List.take_of_length_le (by simp),
        fun hF => by have := h.o.fr _ hF; omega, fun a ha e => by have := prot_lt h.o.prot ha; omega⟩⟩
  refine ⟨κ', tv, by simpa [κ', C, tv] using hrun, hm.1, hm.2, fun m hm' => ⟨Nat.le_succ_of_le hm', fun j hj _ => updF_ne _ _ (by omega)⟩, ?_⟩
  exact ⟨.mrow st.nx _ _ _ (by rw [← h.nx]; exact Nat.lt_succ_self _) (by rw [← h.nx]; exact htk), rfl, htk⟩

theorem run_append_zeros (w : World) (t u ty e : TypeId) (i : TypeInfo) (z : Value) (k : IntKind) (ht : P.underlying t = some (.slice e)) (hu : P.underlying u = some (.int k)) (hi : P.info? e = some i) (hz : i.zero = some z) (n : Int) (h0 : 0 < n) (h63 : n ≤ 4294967296)
    (hb : n * i.bytes ≤ 140737488355328) (hsz : 0 < i.size) : (Builtin.append_ #[t, u] ty #[.slice none 0 0, .int .i64 n]).run P w =
      .ok (.slice (some ⟨w.heap.size, 0, none⟩) n.toNat (grownCap w n.toNat 0 e)) (w.drew.alloc (.cells (Builtin.zeroCells z.cells n.toNat ++ Builtin.zeroCells z.cells (grownCap w n.toNat 0 e - n.toNat)) e)) := by
  obtain ⟨m, rfl⟩ : ∃ m : Nat, n = m := ⟨n.toNat, by omega⟩
  have hm0 : 0 < m := by omega
  have hm : m ≠ 0 := by omega
  have hw : IntKind.i64.wrap (m : Int) = m := by
    simp [IntKind.wrap, IntKind.signed, IntKind.bits]
    split <;> omega
  have h1 : ¬ ((m : Int) < 0) := by omega
  have h2 : ¬ ((281474976710656 : Int) < (m : Int) * (i.bytes : Int)) := by omega
  have h48 : ¬ (281474976710656 < Builtin.nextslicecap m 0 * i.bytes) := by
    rw [nextslicecap_zero hm0]
    have : ((m * i.bytes : Nat) : Int) ≤ 140737488355328 := by push_cast; exact hb
    omega
  have h3 : ¬ ((9223372036854775807 : Int) < (m : Int)) := by omega
  have h4 : ¬ (m * i.size = 0) := by
    intro e
    rcases Nat.mul_eq_zero.1 e with e | e <;> omega
  simp [Builtin.append_, run_underlying ht, run_underlying hu, sizeOf, typeInfo, zeroValue, hi, hz, hm, hw, h1, h2, h3, h4, h48, Question.forced, run_firstCells_none, newRow, grownCap, asInt, asIntOf, show ¬ i.size = 0 by omega]
/-- append of so many zeros, onto nothing: a row that may be written. -/
theorem zeros_ok {N : Nat} {st : St} {a : Act} (h : Rel κ N st a) {t e u : TypeId} {k : IntKind} {d : TD} (hut : P.underlying t = some (.slice e)) (huu : P.underlying u = some (.int k)) (hd : DOK P e d) (hk : d.known = true) (hsz : 0 < d.size) {n : Int} (h0 : 0 < n) (hb1 : n * d.bytes ≤ 140737488355328) (hb2 : n ≤ 4294967296) (ty : TypeId) :
    ∃ κ' v', (Builtin.append_ #[t, u] ty #[.slice none 0 0, .int .i64 n]).run P κ.w = .ok v' κ'.w ∧ Rel κ' N (st.new (.mrow e d.size (List.replicate n.toNat (zElem d)))) a ∧ Ext κ κ' ∧ (∀ m, m ≤ κ.n → Keep m κ κ') ∧ TVR κ' (.mrow st.nx) v' := by
  obtain ⟨i, desc, z, hi, hue, hisz, hby, hag, _, hz, hzc, hz1, hzl, _, hz0⟩ := hd hk
  have hrun := run_append_zeros (P := P) κ.w t u ty e i z k hut huu hi hz n h0 hb2 (by rw [hby]; exact hb1) (by rw [hisz]; exact hsz)
  have hzs : z.cells.size = d.size := by rw [← hzl, ← hzc]; simp
  have hzel : (zElem d).cells = zIVs d.zero := by
    unfold zElem
    cases hg : d.agg
    · simp only [cond_false]
      rw [hz0 hg]
      simp only [zIVs, List.getD_cons_zero]
      unfold zIV
      split <;> rfl
    · rfl
  let cp := grownCap κ.w n.toNat 0 e
  let tv : Value := .slice (some ⟨κ.w.heap.size, 0, none⟩) n.toNat cp
  let C := Builtin.zeroCells z.cells n.toNat ++ Builtin.zeroCells z.cells (cp - n.toNat)
  have hge : n.toNat ≤ cp := grownCap_ge κ.w n.toNat 0 e
  have hcm : cp ≤ maxLen := grownCap_le_maxLen κ.w n.toNat 0 e (by simp only [maxLen]; omega)
  let κ' : Kx := ⟨κ.w.drew.alloc (.cells C e), κ.prot, κ.F, updF κ.tk κ.n (.tuple ⟨[tv]⟩), κ.n + 1⟩
  have htk : κ'.tk κ.n = .tuple ⟨[tv]⟩ := updF_same _ _ _
  have hC1 : (Builtin.zeroCells z.cells n.toNat).toList.length = n.toNat * d.size := by simp [Builtin.zeroCells, hzs]
  have hCs : C.size = cp * d.size := by
    simp only [C, Array.size_append, Builtin.zeroCells, Array.size_map, Array.size_range, hzs, ← Nat.add_mul]
    congr 1; omega
  have hCg : ∀ j, j < n.toNat * d.size → (Builtin.zeroCells z.cells n.toNat).toList[j]? = d.zero[j % d.size]? := by
    intro j hj
    have hlt' : j % z.cells.size < z.cells.size := by rw [hzs]; exact Nat.mod_lt _ hsz
    have hjr : (Array.range (n.toNat * z.cells.size))[j]? = some j := by simp [Array.getElem?_range, hzs, hj]
    simp only [Builtin.zeroCells, Array.getElem?_toList, Array.getElem?_map, hjr, Option.map_some]
    rw [← hzc, Array.getElem?_toList, getElem!_pos z.cells _ hlt', ← hzs]
    simp [hlt']
  have hfl : ∀ j, j < n.toNat * d.size → ((List.replicate n.toNat (zElem d)).flatMap IV.cells)[j]? = (zIVs d.zero)[j % d.size]? := by
    intro j hj
    have hq : j / d.size < n.toNat := (Nat.div_lt_iff_lt_mul hsz).2 hj
    have e1 : j = (j / d.size) * d.size + j % d.size := by rw [Nat.mul_comm]; exact (Nat.div_add_mod _ _).symm
    conv => lhs; rw [e1]
    rw [flat_get (sz := d.size) _ (fun x hx => by rw [List.eq_of_mem_replicate hx, hzel, zIVs_length, hzl]) (by simpa using hq) (Nat.mod_lt _ hsz)]
    have : (List.replicate n.toNat (zElem d)).getD (j / d.size) .any = zElem d := by simp [List.getD, hq]
    rw [this, hzel]
  have hrd : Rel { κ with w := κ.w.drew } N st a := by
    have he : Ext κ { κ with w := κ.w.drew } := ⟨rfl, rfl, rfl, Nat.le_refl _, ⟨fun _ h => h, rfl⟩, fun _ _ => rfl, fun _ h => ⟨h, rfl⟩, fun _ h => .inl h⟩
    exact ⟨⟨fun k o hk => ⟨(h.o.obs k o hk).1, (h.o.obs k o hk).2.keep he (fun _ h => h) (Nat.le_refl _) (fun _ _ => rfl) (h.o.obs k o hk).1 (fun _ _ => rfl) (fun a ha => .inl ha)⟩, h.o.dis, h.o.nd, h.o.prot, h.o.fr⟩, fun i => (h.env i).mono he (Nat.le_refl _) (fun _ _ => rfl), h.size, dfx he h.nodef, h.nx⟩
  have hm := hrd.newOb (κ' := κ') (o := .mrow e d.size (List.replicate n.toNat (zElem d))) (ob := .cells C e) (tv := .tuple ⟨[tv]⟩) rfl rfl rfl rfl rfl (fun b hb => by injection hb with hb; exact hb.symm)
    ⟨some ⟨κ.w.heap.size, 0, none⟩, cp, (Builtin.zeroCells z.cells n.toNat).toList, by rw [List.length_replicate]; exact htk, by rw [List.length_replicate]; exact hC1, fun x hx => by rw [List.eq_of_mem_replicate hx, hzel, zIVs_length, hzl],
      fun u hu => by
        obtain ⟨j, hj⟩ := List.getElem?_of_mem hu
        have hjl : j < (Builtin.zeroCells z.cells n.toNat).toList.length := (List.getElem?_eq_some_iff.1 hj).1
        rw [hC1] at hjl
        rw [hCg j hjl] at hj
        exact hz1 u (List.mem_of_getElem? hj),
      fun j x u hxj hu => by
        have hjl : j < (Builtin.zeroCells z.cells n.toNat).toList.length := (List.getElem?_eq_some_iff.1 hu).1
        rw [hC1] at hjl
        rw [hCg j hjl] at hu
        rw [hfl j hjl, zIVs_get, hu] at hxj
        simp only [Option.map_some, Option.some.injEq] at hxj
        subst hxj
        exact zIV_ok _ _ u,
      .inr ⟨κ.w.heap.size, C, rfl, by show (κ.w.drew.alloc _).heap[_]? = _; exact heap_alloc_new κ.w.drew _, by rw [List.length_replicate]; exact hge, hcm, hCs, by
        rw [List.length_replicate]
        simp only [C, Array.toList_append]
        rw [List.take_append_of_le_length (by rw [hC1]; exact Nat.le_refl _), ← hC1, List.take_length],
        fun hF => by have := h.o.fr _ hF; omega, fun a ha e => by have := prot_lt h.o.prot ha; omega⟩⟩
  have hx2 : Ext κ κ' := by
    have he : Ext κ { κ with w := κ.w.drew } := ⟨rfl, rfl, rfl, Nat.le_refl _, ⟨fun _ h => h, rfl⟩, fun _ _ => rfl, fun _ h => ⟨h, rfl⟩, fun _ h => .inl h⟩
    exact he.trans hm.2
  refine ⟨κ', tv, hrun, hm.1, hx2, fun m hm' => ⟨Nat.le_succ_of_le hm', fun j hj _ => updF_ne _ _ (by omega)⟩, ?_⟩
  exact .mrow st.nx _ _ _ (by rw [← h.nx]; exact Nat.lt_succ_self _) (by rw [← h.nx]; exact htk)

/-- A row cut. -/
theorem cut_ok {N : Nat} {st : St} {a : Act} (h : Rel κ N st a) {t e : TypeId} {d : TD} (hu : P.underlying t = some (.slice e)) (hd : DOK P e d) (hk : d.known = true) {k : Nat} {xs : List IV} (hl : look? st.obj k = some (.mrow e d.size xs)) {v : Value} (hx : TVR κ (.mrow k) v) {n : Int} (h0 : 0 ≤ n) (h1 : n ≤ xs.length) :
    ∃ κ' v', (Instr.sliceAt t v none (some (.int .i64 n)) none).run P κ.w = .ok v' κ'.w ∧ Rel κ' N (st.moved k (.mrow e d.size (xs.take n.toNat))) a ∧ Ext κ κ' ∧ (∀ m, m ≤ κ.n → Keep m κ κ') ∧ TVR κ' (.mrow st.nx) v' := by
  obtain ⟨i, desc, z, hi, hue, hisz, hby, hag, _, hz, hzc, hz1, hzl, _, hz0⟩ := hd hk
  obtain ⟨A0, c0, os, htk0, hown, hol, hxsz, ho1, hov, hblk, hblt⟩ := mrow_own h.o hl
  obtain ⟨A1, c1, htk1, rfl⟩ := mrow_at h.o hl hx
  rw [htk0] at htk1
  simp only [Value.tuple.injEq, Array.mk.injEq, List.cons.injEq, Value.slice.injEq, and_true, true_and] at htk1
  obtain ⟨rfl, rfl⟩ := htk1
  have hnn : n.toNat ≤ xs.length := by omega
  have hlen : (xs.take n.toNat).length = n.toNat := by rw [List.length_take]; omega
  have hle : n.toNat * d.size ≤ xs.length * d.size := Nat.mul_le_mul_right _ hnn
  have hrun : (Instr.sliceAt t (.slice A0 xs.length c0) none (some (.int .i64 n)) none).run P κ.w = .ok (.slice A0 n.toNat c0) κ.w := by
    have hcx : xs.length ≤ c0 := by
      rcases hown.2 with ⟨hv, h0'⟩ | ⟨g, cap, cur, hv, _, hh, hc, _⟩
      · omega
      · simp only [Value.slice.injEq] at hv
        rw [hv.2.2]; exact hc
    have hb := bound_ok (P := P) (v := .int .i64 n) rfl c0 h0 (by omega) .sliceAcap κ.w
    have hA : (A0.map fun x => x.add 0) = A0 := by cases A0 <;> rfl
    simp [Instr.sliceAt, Instr.slice, run_underlying hu, Instr.sliceBounds, hb, sizeOf, typeInfo, hi, hA]
  let κ' : Kx := ⟨κ.w, κ.prot, κ.F, updF κ.tk κ.n (.tuple ⟨[.slice A0 n.toNat c0]⟩), κ.n + 1⟩
  have hm := h.moveOb (κ' := κ') (o' := .mrow e d.size (xs.take n.toNat)) (tv := .tuple ⟨[.slice A0 n.toNat c0]⟩) hl rfl rfl rfl (Nat.le_refl _) (fun b hb hne => rfl) (nprot_of_block hblt) rfl rfl rfl rfl
    (fun b hb => .inl ((hblk _).1 (by rw [blk_tup] at hb; cases A0 <;> exact hb)))
    (fun he => by
      refine ObR.mrow_mk (κ := κ') (A := A0) (c := c0) (us := os.take (n.toNat * d.size)) (by rw [hlen]; exact updF_same _ _ _) ?_ (fun x hx => hxsz x (List.mem_of_mem_take hx)) (fun w hw => ho1 w (List.mem_of_mem_take hw)) (fun j x w hxj hw => ?_) (fun b hb => ?_)
      · rw [hlen]
        refine ⟨by rw [List.length_take, hol]; omega, ?_⟩
        rcases hown.2 with ⟨hv, h0'⟩ | ⟨g, cap, cur, hv, hg, hh, hc, hcm, hcs, htk⟩
        · simp only [Value.slice.injEq] at hv
          exact .inl ⟨by rw [hv.1, hv.2.2]; congr 1; omega, by omega⟩
        · simp only [Value.slice.injEq] at hv
          exact .inr ⟨g, cap, cur, by rw [hv.1, hv.2.2], hg, hh, by omega, hcm, hcs, by rw [← htk, List.take_take, Nat.min_eq_left hle]⟩
      · rw [flat_take _ _ hxsz] at hxj
        rw [List.getElem?_take] at hxj hw
        split at hxj
        · rw [if_pos (by assumption)] at hw
          exact he.iv (hov j x w hxj hw)
        · cases hxj
      · have hb' : Own (κ.tk k) b := (hblk _).1 (by cases A0 <;> exact hb)
        exact ⟨(hblt b hb').2.1, (hblt b hb').2.2⟩)
  refine ⟨κ', _, hrun, hm.1, hm.2, fun m hm' => ⟨Nat.le_succ_of_le hm', fun j hj _ => updF_ne _ _ (by omega)⟩, ?_⟩
  exact .mrow st.nx _ _ _ (by rw [← h.nx]; exact Nat.lt_succ_self _) (by rw [← h.nx]; exact updF_same _ _ _)
end
end Go.PL
