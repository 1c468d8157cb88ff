/- ROWS THAT MAY BE WRITTEN: how they begin, and how they end. -/
import Derived.Test.YtmocgjimlhgejaaKB15
namespace Go.PL
open Go.RowKit (Below)
set_option linter.unusedSimpArgs false
set_option linter.unusedVariables false
section
variable {P : Program} {κ κ' : Kx} {N m : Nat}

/-- A slot is told anew. -/
theorem Rel.setEnv {st : St} {a : Act} (h : Rel κ N st a) (i : Nat) {t : TV} (ht : TVR κ t (a.tmps.getD i undef)) : Rel κ N (st.set i t) a := by
  refine ⟨h.o, fun j => ?_, h.size, h.nodef, h.nx⟩
  rw [St.get_set]
  split
  · rename_i e; subst e; exact ht
  · exact h.env j
/-- A cell of a variable is told anew. -/
theorem Rel.setCellT {st : St} {a : Act} (h : Rel κ N st a) {k j : Nat} {ty : TypeId} {cs : List TV} {t t' : TV} (hk : look? st.obj k = some (.box ty cs)) (hj : cs[j]? = some t) (ht : ∀ u, TVR κ t u → TVR κ t' u) : Rel κ N (st.setOb k (.box ty (cs.set j t'))) a := by
  refine ⟨⟨fun k1 o hk1 => ?_, fun k1 o1 k2 o2 hk1 hk2 => ?_, keysNd_putAt _ _ _ h.o.nd, h.o.prot, h.o.fr⟩, h.env, h.size, h.nodef, h.nx⟩
  · simp only [St.setOb, look?_putAt] at hk1
    split at hk1
    · rename_i e
      subst e
      rw [hk] at hk1
      simp only [Option.map_some, Option.some.injEq] at hk1
      subst hk1
      obtain ⟨q1, b, us, e1, e2, e3, e4, e5⟩ := h.o.obs k1 _ hk
      refine ⟨q1, b, us, e1, e2, by rw [List.length_set]; exact e3, fun i c u hc hu => ?_, e5⟩
      rw [List.getElem?_set] at hc
      split at hc
      · rename_i eij
        subst eij
        split at hc
        · simp only [Option.some.injEq] at hc
          subst hc
          exact ht u (e4 j _ u hj hu)
        · cases hc
      · exact e4 i c u hc hu
    · exact h.o.obs k1 o hk1
  · have key : ∀ i oi, look? (putAt st.obj k (.box ty (cs.set j t'))) i = some oi → ∃ o', look? st.obj i = some o' := by
      intro i oi hi
      rw [look?_putAt] at hi
      split at hi
      · rename_i e; subst e; exact ⟨_, hk⟩
      · exact ⟨oi, hi⟩
    obtain ⟨o1', p1⟩ := key k1 o1 hk1
    obtain ⟨o2', p2⟩ := key k2 o2 hk2
    exact h.o.dis k1 o1' k2 o2' p1 p2
/-- An object of no block. -/
theorem Rel.ghost {st : St} {a : Act} (h : Rel κ N st a) {o : Ob} {tv : Value} (htv : ∀ b, ¬ Own tv b) (hob : ObR ⟨κ.w, κ.prot, κ.F, updF κ.tk κ.n tv, κ.n + 1⟩ κ.n o) :
    Rel ⟨κ.w, κ.prot, κ.F, updF κ.tk κ.n tv, κ.n + 1⟩ N (st.new o) a ∧ Ext κ ⟨κ.w, κ.prot, κ.F, updF κ.tk κ.n tv, κ.n + 1⟩ ∧ ∀ m, m ≤ κ.n → Keep m κ ⟨κ.w, κ.prot, κ.F, updF κ.tk κ.n tv, κ.n + 1⟩ := by
  let κ' : Kx := ⟨κ.w, κ.prot, κ.F, updF κ.tk κ.n tv, κ.n + 1⟩
  have he : Ext κ κ' := ⟨rfl, rfl, rfl, Nat.le_refl _, ⟨fun _ h => h, rfl⟩, fun _ _ => rfl, fun _ h => ⟨h, rfl⟩, fun _ h => .inl h⟩
  have ht : ∀ k, k < κ.n → κ'.tk k = κ.tk k := fun k hk => updF_ne _ _ (by omega)
  have hnew : κ'.tk κ.n = tv := updF_same _ _ _
  have hne : ∀ k o', look? st.obj k = some o' → k ≠ κ.n := fun k o' hk e => by have := (h.o.obs k o' hk).1; omega
  have hnone : look? st.obj κ.n = none := by
    cases hl : look? st.obj κ.n with
    | none => rfl
    | some o' => exact absurd rfl (hne _ _ hl)
  have hlook : ∀ k o', look? ((κ.n, o) :: st.obj) k = some o' → (k = κ.n ∧ o' = o) ∨ (k ≠ κ.n ∧ look? st.obj k = some o') := by
    intro k o' hk
    simp only [look?] at hk
    by_cases e : k = κ.n
    · subst e
      simp at hk
      exact .inl ⟨rfl, hk.symm⟩
    · have hb : (k == κ.n) = false := beq_eq_false_iff_ne.2 e
      rw [hb] at hk
      exact .inr ⟨e, hk⟩
  refine ⟨⟨⟨fun k o hk => ?_, fun k o1 k' o2 hk hk' hkk b hb1 hb2 => ?_, ?_, h.o.prot, h.o.fr⟩, fun j => (h.env j).mono he (Nat.le_succ _) ht, h.size, h.nodef, ?_⟩, he, fun m hm => ⟨Nat.le_succ_of_le hm, fun k hk _ => ht k (by omega)⟩⟩
  · simp only [St.new, ← h.nx] at hk
    rcases hlook k o hk with ⟨rfl, rfl⟩ | ⟨hkn, hk1⟩
    · exact ⟨Nat.lt_succ_self _, hob⟩
    · obtain ⟨h1, h2⟩ := h.o.obs k o hk1
      exact ⟨Nat.lt_succ_of_lt h1, h2.keep he (fun _ h => h) (Nat.le_succ _) ht h1 (fun _ _ => rfl) (fun a ha => .inl ha)⟩
  · simp only [St.new, ← h.nx] at hk hk'
    rcases hlook k o1 hk with ⟨rfl, rfl⟩ | ⟨hkn, hk1⟩
    · have : Own (κ'.tk κ.n) b := hb1
      rw [hnew] at this; exact (htv _ this).elim
    · rcases hlook k' o2 hk' with ⟨rfl, rfl⟩ | ⟨hkn', hk2⟩
      · have : Own (κ'.tk κ.n) b := hb2
        rw [hnew] at this; exact (htv _ this).elim
      · have e1 := ht k (h.o.obs k o1 hk1).1
        have e2 := ht k' (h.o.obs k' o2 hk2).1
        have q1 : Own (κ'.tk k) b := hb1
        have q2 : Own (κ'.tk k') b := hb2
        rw [e1] at q1
        rw [e2] at q2
        exact h.o.dis k o1 k' o2 hk1 hk2 hkk b q1 q2
  · simp only [St.new, ← h.nx]
    exact ⟨hnone, h.o.nd⟩
  · show κ.n + 1 = st.nx + 1
    rw [h.nx]
theorem mrow_nil_ob (e : TypeId) (sz : Nat) : ObR ⟨κ.w, κ.prot, κ.F, updF κ.tk κ.n (.tuple ⟨[.slice none 0 0]⟩), κ.n + 1⟩ κ.n (.mrow e sz []) :=
  ⟨none, 0, [], updF_same _ _ _, by simp, by simp, by simp, by simp, .inl ⟨rfl, rfl, rfl⟩⟩
/-- A slot's nil slice is a row that may be written, of nothing yet. -/
theorem Gh.mrow {st : St} (i : Nat) (e : TypeId) (sz : Nat) (hi : st.get i = .nilsl) : Gh m st ((st.new (.mrow e sz [])).set i (.mrow st.nx)) := by
  intro κ N a h hm
  obtain ⟨h1, h2, h3⟩ := h.ghost (o := .mrow e sz []) (tv := .tuple ⟨[.slice none 0 0]⟩) (fun b hb => by cases hb) (mrow_nil_ob e sz)
  refine ⟨⟨κ.w, κ.prot, κ.F, updF κ.tk κ.n (.tuple ⟨[.slice none 0 0]⟩), κ.n + 1⟩, rfl, h1.setEnv i ?_, h2, h3 m hm⟩
  have hv : a.tmps.getD i undef = .slice none 0 0 := by
    have := h.env i
    rw [hi] at this
    generalize a.tmps.getD i undef = v at this
    cases this; rfl
  rw [hv]
  exact .mrow _ _ _ _ (by rw [← h.nx]; exact Nat.lt_succ_self _) (by rw [← h.nx]; exact updF_same _ _ _)
/-- A variable's nil slice likewise. -/
theorem Gh.mrowc {st : St} (k j : Nat) (e : TypeId) (sz : Nat) {ty : TypeId} {cs : List TV} (hk : look? st.obj k = some (.box ty cs)) (hj : cs[j]? = some .nilsl) : Gh m st ((st.new (.mrow e sz [])).setOb k (.box ty (cs.set j (.mrow st.nx)))) := by
  intro κ N a h hm
  obtain ⟨h1, h2, h3⟩ := h.ghost (o := .mrow e sz []) (tv := .tuple ⟨[.slice none 0 0]⟩) (fun b hb => by cases hb) (mrow_nil_ob e sz)
  have hkn := (h.o.obs k _ hk).1
  refine ⟨⟨κ.w, κ.prot, κ.F, updF κ.tk κ.n (.tuple ⟨[.slice none 0 0]⟩), κ.n + 1⟩, rfl, h1.setCellT (t := .nilsl) ?_ hj (fun u hu => ?_), h2, h3 m hm⟩
  · simp only [St.new, look?]
    have hb : (k == st.nx) = false := beq_eq_false_iff_ne.2 (by rw [← h.nx]; omega)
    rw [hb, cond_false]; exact hk
  · cases hu
    exact .mrow _ _ _ _ (by rw [← h.nx]; exact Nat.lt_succ_self _) (by rw [← h.nx]; exact updF_same _ _ _)
/-- A row of nothing yet may be written from here on. -/
theorem Gh.accm {st : St} (i k : Nat) {e : TypeId} {sz : Nat} (hi : st.get i = .acc k sz []) (hk : look? st.obj k = some (.row e sz)) : Gh m st ((st.moved k (.mrow e sz [])).set i (.mrow st.nx)) := by
  intro κ N a h hm
  have hv : a.tmps.getD i undef = κ.tk k ∧ IVR κ.w κ.prot (.sl sz []) (κ.tk k) := by
    have := h.env i
    rw [hi] at this
    generalize a.tmps.getD i undef = v at this
    cases this with
    | acc _ _ _ _ h => exact ⟨rfl, h⟩
  obtain ⟨hv, hiv⟩ := hv
  have hform : ∃ A c, κ.tk k = .slice A 0 c := by
    generalize κ.tk k = v at hiv
    cases hiv with
    | sl A _ _ c us => exact ⟨A, c, rfl⟩
  obtain ⟨A, c, hA⟩ := hform
  let κ' : Kx := ⟨κ.w, κ.prot, κ.F, updF κ.tk κ.n (.tuple ⟨[.slice A 0 c]⟩), κ.n + 1⟩
  have hob := (h.o.obs k _ hk).2
  have hm1 := h.moveOb (κ' := κ') (o' := .mrow e sz []) (tv := .tuple ⟨[.slice A 0 c]⟩) hk rfl rfl rfl (Nat.le_refl _) (fun b hb hne => rfl) (fun x hx hb => by
      rcases hob with h0 | ⟨b, n, c', cur, e1, e2, e3, e4, e5, e6, e7⟩
      · rw [h0] at hb; cases hb
      · have h1 := e1
        rw [hA] at h1
        simp only [Value.slice.injEq] at h1
        rw [e1] at hb
        injection hb with hb
        have := e7 x hx hb.symm
        rw [← h1.2.1] at this
        omega) rfl rfl rfl rfl (fun b hb => .inl (by rw [hA]; cases A <;> exact hb)) (fun he => by
      rcases hob with h0 | ⟨b, n, c', cur, e1, e2, e3, e4, e5, e6, e7⟩
      · rw [hA] at h0
        simp only [Value.slice.injEq] at h0
        exact ⟨A, c, [], by exact updF_same _ _ _, by simp, by simp, by simp, by simp, .inl ⟨h0.1, rfl, h0.2.2⟩⟩
      · rw [hA] at e1
        simp only [Value.slice.injEq] at e1
        refine ⟨A, c, [], by exact updF_same _ _ _, by simp, by simp, by simp, by simp, .inr ⟨b, cur, e1.1, e2, Nat.zero_le _, by rw [e1.2.2]; exact e4, by rw [e1.2.2]; exact e5, by simp, e6, fun x hx hb => ?_⟩⟩
        have := e7 x hx hb
        rw [← e1.2.1] at this
        omega)
  refine ⟨κ', rfl, hm1.1.setEnv i ?_, hm1.2, ⟨Nat.le_succ_of_le hm, fun j hj _ => updF_ne _ _ (by omega)⟩⟩
  rw [hv, hA]
  exact .mrow _ _ _ _ (by rw [← h.nx]; exact Nat.lt_succ_self _) (by rw [← h.nx]; exact updF_same _ _ _)

/-! ### A row that is written no more -/
def frzT (k : Nat) (x : IV) : TV → TV
  | .mrow j => bif j == k then .iv x else .mrow j
  | .wh b (.mrow j) => bif j == k then .wh b (.iv x) else .wh b (.mrow j)
  | t => t
def frzC (k : Nat) (x : IV) : List TV → List TV
  | [] => []
  | t :: l => frzT k x t :: frzC k x l
def frzE (k : Nat) (x : IV) : List (Nat × TV) → List (Nat × TV)
  | [] => []
  | (i, t) :: l => (i, frzT k x t) :: frzE k x l
def frzO (k : Nat) (x : IV) : List (Nat × Ob) → List (Nat × Ob)
  | [] => []
  | (i, .box ty cs) :: l => (i, .box ty (frzC k x cs)) :: frzO k x l
  | p :: l => p :: frzO k x l
theorem frzC_get (k : Nat) (x : IV) (l : List TV) (j : Nat) : (frzC k x l)[j]? = (l[j]?).map (frzT k x) := by
  induction l generalizing j with
  | nil => simp [frzC]
  | cons t l ih => cases j <;> simp [frzC, ih]
theorem frzC_length (k : Nat) (x : IV) (l : List TV) : (frzC k x l).length = l.length := by
  induction l with
  | nil => rfl
  | cons t l ih => simp [frzC, ih]
theorem look?_frzE (k : Nat) (x : IV) : ∀ (l : List (Nat × TV)) (i : Nat), look? (frzE k x l) i = (look? l i).map (frzT k x)
  | [], i => rfl
  | (j, t) :: l, i => by
    simp only [frzE, look?]
    cases h : i == j <;> simp [look?_frzE k x l i]
def frzB (k : Nat) (x : IV) : Ob → Ob
  | .box ty cs => .box ty (frzC k x cs)
  | o => o
theorem look?_frzO (k : Nat) (x : IV) : ∀ (l : List (Nat × Ob)) (i : Nat), look? (frzO k x l) i = (look? l i).map (frzB k x)
  | [], i => rfl
  | (j, o) :: l, i => by
    cases o <;> (simp only [frzO, look?]; cases h : i == j <;> simp [look?_frzO k x l i, frzB])
theorem keysNd_frzO (k : Nat) (x : IV) : ∀ (l : List (Nat × Ob)), keysNd l → keysNd (frzO k x l)
  | [], h => h
  | (j, o) :: l, h => by
    cases o <;> exact ⟨by rw [look?_frzO, h.1]; rfl, keysNd_frzO k x l h.2⟩
theorem Gh.freeze {st : St} (k : Nat) {e : TypeId} {sz : Nat} {xs : List IV} (hk : look? st.obj k = some (.mrow e sz xs)) : Gh m st ⟨frzE k (.sl sz xs) st.env, frzO k (.sl sz xs) (rmAt st.obj k), st.nx⟩ := by
  intro κ N a h hm
  obtain ⟨hkn, A, c, us, htk, hul, hxsz, h1, hov, hmm⟩ := h.o.obs k _ hk
  let pr : Addr → Prop := fun x => ∃ b, A = some ⟨b, 0, none⟩ ∧ ∃ j, j < us.length ∧ x = ⟨b, j, none⟩
  let κ' : Kx := ⟨κ.w, fun x => κ.prot x ∨ pr x, κ.F, κ.tk, κ.n⟩
  have hcell : ∀ b, A = some ⟨b, 0, none⟩ → ¬ κ.F b ∧ ∀ (j : Nat) (u : Value), us[j]? = some u → κ.w.cell? ⟨b, j, none⟩ = some u := by
    intro b hA
    rcases hmm with ⟨hA', _⟩ | ⟨b', cur, hA', hh, hc, hcm, hcs, htake, hF, hP⟩
    · rw [hA] at hA'; cases hA'
    · rw [hA] at hA'
      injection hA' with hA'
      injection hA' with hA'
      subst hA'
      refine ⟨hF, fun j u hu => ?_⟩
      rw [cell_of_row κ.w b j _ _ _ hh]
      rw [← htake, List.getElem?_take] at hu
      split at hu
      · simpa using hu
      · cases hu
  have he : Ext κ κ' := by
    refine ⟨rfl, rfl, rfl, Nat.le_refl _, ⟨fun _ h => h, rfl⟩, fun _ _ => rfl, fun _ h => ⟨.inl h, rfl⟩, fun x hx => ?_⟩
    rcases hx with hx | ⟨b, hA, j, hj, rfl⟩
    · exact .inl hx
    · exact .inr (hcell b hA).1
  have hsl : ∀ v, TVR κ (.mrow k) v → IVR κ'.w κ'.prot (.sl sz xs) v := by
    intro v hv
    obtain ⟨A', c', q1, rfl⟩ := mrow_at h.o hk hv
    rw [htk] at q1
    simp only [Value.tuple.injEq, Array.mk.injEq, List.cons.injEq, Value.slice.injEq, and_true, true_and] at q1
    obtain ⟨rfl, rfl⟩ := q1
    rcases hmm with ⟨rfl, rfl, rfl⟩ | ⟨b, cur, rfl, hh, hc, hcm, hcs, htake, hF, hP⟩
    · exact .sl none sz [] 0 [] (Nat.le_refl _) (by simp) (by simp) (by simp) (by simp) (by simp) (by simp) (fun _ => rfl)
    · refine .sl _ sz xs c us hc hul hxsz h1 (fun _ => ⟨_, rfl⟩) (fun ad e j u hu => ?_) (fun j x u hx hu => he.iv (hov j x u hx hu)) (fun e => by cases e)
      injection e with e
      subst e
      have hj : j < us.length := (List.getElem?_eq_some_iff.1 hu).1
      rw [add_mk, Nat.zero_add]
      exact ⟨(hcell b rfl).2 j u hu, .inr ⟨b, rfl, j, hj, rfl⟩⟩
  have hT : ∀ t v, TVR κ t v → TVR κ' (frzT k (.sl sz xs) t) v := by
    intro t v ht
    have hmono : ∀ {t v}, TVR κ t v → TVR κ' t v := fun h => h.mono he (Nat.le_refl _) (fun _ _ => rfl)
    unfold frzT
    split
    · rename_i j
      cases hj : j == k
      · exact hmono ht
      · have e : j = k := by simpa using hj
        subst e
        exact .iv _ _ (hsl v ht)
    · rename_i b j
      cases hj : j == k
      · exact hmono ht
      · have e : j = k := by simpa using hj
        subst e
        cases ht with
        | wh _ _ _ h1 h2 => exact .wh b _ v (fun hb => .iv _ _ (hsl v (h1 hb))) h2
    · exact hmono ht
  refine ⟨κ', rfl, ⟨⟨fun k1 o hk1 => ?_, fun k1 o1 k2 o2 hk1 hk2 => ?_, keysNd_frzO _ _ _ (keysNd_rmAt _ _ h.o.nd), fun x hx => ?_, h.o.fr⟩, fun i => ?_, h.size, dfx he h.nodef, h.nx⟩, he, ⟨hm, fun _ _ _ => rfl⟩⟩
  · rw [look?_frzO, look?_rmAt _ _ _ h.o.nd] at hk1
    split at hk1
    · simp at hk1
    · rename_i hne
      obtain ⟨o0, ho0, rfl⟩ := Option.map_eq_some_iff.1 hk1
      obtain ⟨q1, q2⟩ := h.o.obs k1 o0 ho0
      have hpx : ∀ x, κ'.prot x → κ.prot x ∨ ∀ b, Own (κ.tk k1) b → x.block ≠ b := by
        intro x hx
        rcases hx with hx | ⟨b, hA, j, hj, rfl⟩
        · exact .inl hx
        · refine .inr fun b' hb' e => ?_
          have e : b = b' := e
          subst e
          exact h.o.dis k _ k1 o0 hk ho0 (fun e => hne e.symm) b (by rw [htk, hA]; rfl) hb'
      have q3 := q2.keep he (fun _ h => h) (Nat.le_refl _) (fun _ _ => rfl) q1 (fun _ _ => rfl) hpx
      refine ⟨q1, ?_⟩
      cases o0 with
      | box ty cs =>
        obtain ⟨b, vs, e1, e2, e3, e4, e5, e6, e7⟩ := q3
        obtain ⟨b', vs', f1, f2, f3, f4, _⟩ := q2
        have hbb : b' = b := by
          have : κ.tk k1 = .pointer (some ⟨b, 0, none⟩) := e1
          rw [f1] at this; injection this with this; injection this with this; injection this
        subst hbb
        have hvv : vs' = vs := by
          have h3 : κ.w.heap[b']? = some (.cells vs.toArray ty (0, 0)) := e2
          rw [f2] at h3
          injection h3 with h3
          injection h3 with h3 _ _
          have := congrArg Array.toList h3
          simpa using this
        subst hvv
        refine ⟨b', vs', e1, e2, by rw [frzC_length]; exact e3, fun j c u hc hu => ?_, e5, e6, e7⟩
        rw [frzC_get] at hc
        obtain ⟨c0, hc0, rfl⟩ := Option.map_eq_some_iff.1 hc
        exact hT _ _ (f4 j c0 u hc0 hu)
      | _ => exact q3
  · rw [look?_frzO, look?_rmAt _ _ _ h.o.nd] at hk1 hk2
    split at hk1
    · simp at hk1
    · split at hk2
      · simp at hk2
      · obtain ⟨p1, hp1, _⟩ := Option.map_eq_some_iff.1 hk1
        obtain ⟨p2, hp2, _⟩ := Option.map_eq_some_iff.1 hk2
        exact h.o.dis k1 p1 k2 p2 hp1 hp2
  · rcases hx with hx | ⟨b, hA, j, hj, rfl⟩
    · exact h.o.prot x hx
    · show (κ.w.cell? _).isSome = true
      rw [(hcell b hA).2 j _ (List.getElem?_eq_getElem hj)]; rfl
  · have := h.env i
    simp only [St.get, look_eq] at this ⊢
    rw [look?_frzE]
    cases hq : look? st.env i with
    | none => exact .any _
    | some t => rw [hq] at this; exact hT _ _ this
end
attribute [push_cast] frzT frzC frzE frzO
end Go.PL
