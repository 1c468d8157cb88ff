/- WHAT IS BUILT; QUIET OPERATIONS, ALL OF THEM, AS THE MODEL CARRIES THEM OUT. -/
import Derived.Test.YtmocgjimlhgejaaKBM
import Derived.Great.FillDense
namespace Go.PL
open Go.RowKit (Below)
set_option linter.unusedSimpArgs false
set_option linter.unusedVariables false

theorem fold_list (off : Nat) (l : Array Value) (cs : Array Value) (h : off + l.size ≤ cs.size) :
    (l.zipIdx.foldl (fun cs (x : Value × Nat) => cs.setIfInBounds (off + x.2) x.1) cs).toList = cs.toList.take off ++ l.toList ++ cs.toList.drop (off + l.size) := by
  have e : l.zipIdx.foldl (fun cs (x : Value × Nat) => cs.setIfInBounds (off + x.2) x.1) cs = (l.toList.zipIdx 0).foldl (fun cs (x : Value × Nat) => cs.setIfInBounds (off + x.2) x.1) cs := by
    rw [← Array.foldl_toList, Array.toList_zipIdx]
  rw [e]
  obtain ⟨h1, h2⟩ := Go.Great.foldl_set off l.toList 0 cs
  apply List.ext_getElem?
  intro k
  rw [Array.getElem?_toList, h2 k, List.append_assoc]
  simp only [Nat.add_zero, Array.length_toList]
  by_cases hk : k < off
  · rw [if_neg (by omega), List.getElem?_append_left (by simp; omega), List.getElem?_take, if_pos hk, Array.getElem?_toList]
  · rw [List.getElem?_append_right (by simp; omega)]
    have e1 : (cs.toList.take off).length = off := by simp; omega
    rw [e1]
    by_cases hk2 : k < off + l.size
    · rw [if_pos (by omega), List.getElem?_append_left (by simp; omega)]
    · rw [if_neg (by omega), List.getElem?_append_right (by simp; omega), List.getElem?_drop, Array.getElem?_toList]
      congr 1
      simp
      omega

section
variable {P : Program} {κ : Kx}
/-- Cells as a list of immutable values tells them. -/
def CR (w : World) (prot : Addr → Prop) (cs : List IV) (us : List Value) : Prop :=
  us.length = cs.length ∧ (∀ u ∈ us, u.oneCell' = true) ∧ ∀ (j : Nat) (c : IV) (u : Value), cs[j]? = some c → us[j]? = some u → IVR w prot c u

theorem CR.cells {w : World} {prot : Addr → Prop} {x : IV} {v : Value} (h : IVR w prot x v) (h1 : x.one) : CR w prot x.cells v.cells.toList := by
  cases h with
  | any => exact h1.elim
  | lit v =>
    have e : v.cells = #[v] := by cases v <;> first | rfl | (simp [IV.one, Value.oneCell'] at h1)
    rw [e]
    refine ⟨rfl, by simpa [IV.one] using h1, fun j c u hc hu => ?_⟩
    cases j with
    | zero => simp [IV.cells] at hc hu; subst hc; subst hu; exact .lit _
    | succ j => simp [IV.cells] at hc
  | agg cs us hl ho h => exact ⟨by simpa [IV.cells, Value.cells] using hl, by simpa [Value.cells] using ho, by simpa [IV.cells, Value.cells] using h⟩
  | sl A sz xs c us hc hl hsz ho hA ha h hN =>
    refine ⟨rfl, by simp [Value.cells, Value.oneCell'], fun j c' u hc' hu => ?_⟩
    cases j with
    | zero => simp [IV.cells, Value.cells] at hc' hu; subst hc'; subst hu; exact .sl A sz xs c us hc hl hsz ho hA ha h hN
    | succ j => simp [IV.cells] at hc'
theorem CR.app {w : World} {prot : Addr → Prop} {cs ds : List IV} {us vs : List Value} (h : CR w prot cs us) (k : CR w prot ds vs) : CR w prot (cs ++ ds) (us ++ vs) := by
  refine ⟨by simp [h.1, k.1], fun u hu => (List.mem_append.1 hu).elim (h.2.1 u) (k.2.1 u), fun j c u hc hu => ?_⟩
  by_cases hj : j < us.length
  · rw [List.getElem?_append_left hj] at hu
    rw [List.getElem?_append_left (by rw [← h.1]; exact hj)] at hc
    exact h.2.2 _ _ _ hc hu
  · rw [List.getElem?_append_right (by omega)] at hu
    rw [List.getElem?_append_right (by rw [← h.1]; omega), ← h.1] at hc
    exact k.2.2 _ _ _ hc hu
theorem CR.take {w : World} {prot : Addr → Prop} {cs : List IV} {us : List Value} (h : CR w prot cs us) (n : Nat) : CR w prot (cs.take n) (us.take n) := by
  refine ⟨by simp [h.1], fun u hu => h.2.1 u (List.mem_of_mem_take hu), fun j c u hc hu => ?_⟩
  rw [List.getElem?_take] at hc hu
  split at hc
  · rw [if_pos (by assumption)] at hu; exact h.2.2 _ _ _ hc hu
  · cases hc
theorem CR.drop {w : World} {prot : Addr → Prop} {cs : List IV} {us : List Value} (h : CR w prot cs us) (n : Nat) : CR w prot (cs.drop n) (us.drop n) := by
  refine ⟨by simp [h.1], fun u hu => h.2.1 u (List.mem_of_mem_drop hu), fun j c u hc hu => ?_⟩
  rw [List.getElem?_drop] at hc hu
  exact h.2.2 _ _ _ hc hu

theorem zIV_ok (w : World) (prot : Addr → Prop) (v : Value) : IVR w prot (zIV v) v := by
  unfold zIV
  split
  · exact .sl none 0 [] 0 [] (Nat.le_refl _) rfl (by simp) (by simp) (by simp) (by simp) (by simp) (fun _ => rfl)
  · exact .lit v
theorem zIVs_get : ∀ (l : List Value) (j : Nat), (zIVs l)[j]? = (l[j]?).map zIV
  | [], j => by simp [zIVs]
  | x :: l, 0 => by simp [zIVs]
  | x :: l, j + 1 => by simp [zIVs, zIVs_get l j]
theorem zIVs_length : ∀ (l : List Value), (zIVs l).length = l.length
  | [] => rfl
  | x :: l => by simp [zIVs, zIVs_length l]
theorem CR.zero (w : World) (prot : Addr → Prop) (l : List Value) (h1 : ∀ v ∈ l, v.oneCell' = true) : CR w prot (zIVs l) l := by
  refine ⟨(zIVs_length l).symm, h1, fun j c u hc hu => ?_⟩
  rw [zIVs_get, hu] at hc
  simp only [Option.map_some, Option.some.injEq] at hc
  subst hc
  exact zIV_ok w prot u

theorem CR.zb (w : World) (prot : Addr → Prop) (ps : List (Nat × Operand)) (l : List Value) (h1 : ∀ v ∈ l, v.oneCell' = true) : CR w prot (zB ps l) l := by
  cases ps with
  | cons p ps => exact CR.zero w prot l h1
  | nil =>
    have hg : ∀ (l : List Value) (j : Nat), (litZ l)[j]? = (l[j]?).map IV.lit := by
      intro l
      induction l with
      | nil => intro j; simp [litZ]
      | cons x l ih => intro j; cases j <;> simp [litZ, ih]
    have hl : ∀ (l : List Value), (litZ l).length = l.length := by
      intro l
      induction l with
      | nil => rfl
      | cons x l ih => simp [litZ, ih]
    refine ⟨(hl l).symm, h1, fun j c u hc hu => ?_⟩
    have hc' : (litZ l)[j]? = some c := hc
    rw [hg, hu] at hc'
    simp only [Option.map_some, Option.some.injEq] at hc'
    subst hc'
    exact .lit u
theorem fill_ok {w : World} {prot : Addr → Prop} {pl : Nat → Nat × Nat} {place : Nat → Option (Nat × Nat)} : ∀ (ps : List (Nat × IV)) (vs : List (Nat × Value)) (cs : List IV) (us : Array Value),
    vs.length = ps.length → (∀ (j : Nat) (p : Nat × IV) (q : Nat × Value), ps[j]? = some p → vs[j]? = some q → q.1 = p.1 ∧ IVR w prot p.2 q.2 ∧ place p.1 = some (pl p.1)) → CR w prot cs us.toList → (fillI pl cs ps).1 →
    ∃ r : Array Value, Instr.fill place us vs = some r ∧ CR w prot (fillI pl cs ps).2 r.toList
  | [], [], cs, us, _, _, hc, _ => ⟨us, rfl, hc⟩
  | (i, x) :: ps, (i', v) :: vs, cs, us, hl, hp, hc, hC => by
    obtain ⟨rfl, hx, hpl⟩ := hp 0 _ _ rfl rfl
    simp only at hx hpl
    simp only [fillI] at hC ⊢
    obtain ⟨hone, hsz, hle, hrest⟩ := hC
    have hxc := CR.cells hx hone
    have hs : v.cells.size = (pl i').2 := by have := hxc.1; simp at this; omega
    have hle' : (pl i').1 + v.cells.size ≤ us.size := by have := hc.1; simp at this; omega
    have hset : CR w prot (cs.take (pl i').1 ++ x.cells ++ cs.drop ((pl i').1 + x.cells.length)) (v.cells.zipIdx.foldl (fun cs (c : Value × Nat) => cs.setIfInBounds ((pl i').1 + c.2) c.1) us).toList := by
      rw [fold_list _ _ _ hle']
      have e : x.cells.length = v.cells.size := by have := hxc.1; simp at this; omega
      rw [e]
      exact ((hc.take _).app hxc).app (hc.drop _)
    obtain ⟨r, hr, hcr⟩ := fill_ok ps vs _ _ (by simpa using hl) (fun j p q h1 h2 => hp (j + 1) p q (by simpa using h1) (by simpa using h2)) hset hrest
    refine ⟨r, ?_, hcr⟩
    simp only [Instr.fill, hpl]
    rw [if_neg (by simp only [Bool.or_eq_true, decide_eq_true_eq]; omega)]
    exact hr

theorem oxs_ok {N : Nat} {st : St} {a : Act} (h : Rel κ N st a) : ∀ (l : List (Nat × Operand)), ops? st l → ∀ (j : Nat) (p : Nat × IV) (q : Nat × Value), (oxs st l)[j]? = some p → (l.map fun x => (x.1, a.eval x.2))[j]? = some q → q.1 = p.1 ∧ IVR κ.w κ.prot p.2 q.2
  | [], _, j, p, q, hp, _ => by simp [oxs] at hp
  | (i, x) :: l, hh, 0, p, q, hp, hq => by
    simp only [oxs, List.getElem?_cons_zero, Option.some.injEq] at hp
    simp only [List.map_cons, List.getElem?_cons_zero, Option.some.injEq] at hq
    subst hp; subst hq
    exact ⟨rfl, (h.ox hh.1).im⟩
  | (i, x) :: l, hh, j + 1, p, q, hp, hq => by
    simp only [oxs, List.getElem?_cons_succ] at hp
    simp only [List.map_cons, List.getElem?_cons_succ] at hq
    exact oxs_ok h l hh.2 j p q hp hq
theorem oxs_length (st : St) : ∀ (l : List (Nat × Operand)), (oxs st l).length = l.length
  | [] => rfl
  | (i, x) :: l => by simp [oxs, oxs_length st l]
theorem oxs_fst (st : St) : ∀ (l : List (Nat × Operand)) (j : Nat) (p : Nat × IV), (oxs st l)[j]? = some p → ∃ x, l[j]? = some (p.1, x)
  | [], j, p, h => by simp [oxs] at h
  | (i, x) :: l, 0, p, h => by
    simp only [oxs, List.getElem?_cons_zero, Option.some.injEq] at h
    subst h; exact ⟨x, rfl⟩
  | (i, x) :: l, j + 1, p, h => by
    simp only [oxs, List.getElem?_cons_succ] at h
    exact oxs_fst st l j p h
theorem psLt_get {n : Nat} : ∀ (l : List (Nat × Operand)), psLt n l → ∀ (j : Nat) (p : Nat × Operand), l[j]? = some p → p.1 < n
  | [], _, j, p, h => by simp at h
  | (i, x) :: l, hh, 0, p, h => by simp at h; subst h; exact hh.1
  | (i, x) :: l, hh, j + 1, p, h => by simp at h; exact psLt_get l hh.2 j p h

theorem places_ok : ∀ (fs : List Field) (l : List (Nat × Nat × TypeId)), fs.length = l.length →
    (∀ i, i < l.length → ∃ f, fs[i]? = some f ∧ f.offset = (offOf l i).1 ∧ (P.info? f.type).map (·.size) = some (offOf l i).2.1) → fs.mapM (fun f => (P.info? f.type).map fun i => (f.offset, i.size)) = some (l.map fun x => (x.1, x.2.1))
  | [], [], _, _ => rfl
  | [], x :: l, h, _ => by simp at h
  | f :: fs, [], h, _ => by simp at h
  | f :: fs, x :: l, h, hall => by
    have ih := places_ok fs l (by simpa using h) (fun i hi => by
      obtain ⟨f', h1, h2, h3⟩ := hall (i + 1) (by simpa using hi)
      exact ⟨f', by simpa using h1, by simpa [offOf] using h2, by simpa [offOf] using h3⟩)
    obtain ⟨f', h1, h2, h3⟩ := hall 0 (by simp)
    simp only [List.getElem?_cons_zero, Option.some.injEq] at h1
    subst h1
    obtain ⟨fi, hfi, hfs⟩ := Option.map_eq_some_iff.1 h3
    rw [List.mapM_cons, ih, hfi]
    simp [offOf] at h2 hfs
    simp [h2, hfs]

theorem build_ok {τ : Nat → TD} (hτ : TOK P τ) {N : Nat} {st : St} {a : Act} (h : Rel κ N st a) {t : TypeId} {ps : List (Nat × Operand)} {C : Prop} {r : TV} (hq : buildQ τ st t ps = some (C, r)) (hC : C) :
    ∃ u, (∀ w' : World, (Instr.build t (ps.map fun x => (x.1, a.eval x.2)).toArray).run P w' = .ok u w') ∧ TVR κ r u := by
  unfold buildQ at hq
  split at hq
  · rename_i l hkd
    simp only [Option.some.injEq, Prod.mk.injEq] at hq
    obtain ⟨rfl, rfl⟩ := hq
    obtain ⟨hk, hops, hlt, hf⟩ := hC
    obtain ⟨i, desc, z, hi, hu, hsz, _, hag, hko, hz, hzc, hz1, hzl, _⟩ := hτ t hk
    rw [hkd] at hko
    obtain ⟨fs, rfl, hfs, hall⟩ := hko
    have hpl := places_ok (P := P) fs.toList l (by simpa using hfs) (fun i hi => by
      obtain ⟨f, h1, h2, h3, _⟩ := hall i hi
      exact ⟨f, by simpa using h1, h2, h3⟩)
    obtain ⟨res, hr, hcr⟩ := fill_ok (w := κ.w) (prot := κ.prot) (pl := fun i => ((offOf l i).1, (offOf l i).2.1)) (place := ((l.map fun x => (x.1, x.2.1)).toArray[·]?)) (oxs st ps) (ps.map fun x => (x.1, a.eval x.2)) (zB ps (τ t).zero) z.cells
      (by simp [oxs_length]) (fun j p q hp hq => by
        obtain ⟨h1, h2⟩ := oxs_ok h ps hops j p q hp hq
        refine ⟨h1, h2, ?_⟩
        obtain ⟨x, hx⟩ := oxs_fst st ps j p hp
        have := psLt_get ps hlt j _ hx
        simp only [List.getElem?_toArray, List.getElem?_map]
        rw [List.getElem?_eq_getElem this]
        simp [offOf, List.getD, this]) (by rw [hzc]; exact CR.zb _ _ _ _ hz1) hf
    refine ⟨.agg res, fun w' => run_build w' t _ res ?_, ?_⟩
    · simp [Program.built, hi, hu, hz, hpl]
      simpa using hr
    · have := IVR.agg (w := κ.w) (prot := κ.prot) _ res.toList hcr.1 hcr.2.1 hcr.2.2
      exact .iv _ _ (by simpa using this)
  · rename_i n e hkd
    simp only [Option.some.injEq, Prod.mk.injEq] at hq
    obtain ⟨rfl, rfl⟩ := hq
    obtain ⟨hk, hke, hops, hf⟩ := hC
    obtain ⟨i, desc, z, hi, hu, hsz, _, hag, hko, hz, hzc, hz1, hzl, _⟩ := hτ t hk
    obtain ⟨ie, de, ze, hie, hue, hsze, _⟩ := hτ e hke
    rw [hkd] at hko
    simp only [KOK] at hko
    subst hko
    obtain ⟨res, hr, hcr⟩ := fill_ok (w := κ.w) (prot := κ.prot) (pl := fun i => (i * (τ e).size, (τ e).size)) (place := fun i => some (i * (τ e).size, (τ e).size)) (oxs st ps) (ps.map fun x => (x.1, a.eval x.2)) (zIVs (τ t).zero) z.cells
      (by simp [oxs_length]) (fun j p q hp hq => by
        obtain ⟨h1, h2⟩ := oxs_ok h ps hops j p q hp hq
        exact ⟨h1, h2, rfl⟩) (by rw [hzc]; exact CR.zero _ _ _ hz1) hf
    refine ⟨.agg res, fun w' => run_build w' t _ res ?_, ?_⟩
    · simp [Program.built, hi, hu, hz, hie, hsze]
      simpa using hr
    · have := IVR.agg (w := κ.w) (prot := κ.prot) _ res.toList hcr.1 hcr.2.1 hcr.2.2
      exact .iv _ _ (by simpa using this)
  · cases hq

/-- A quiet operation yields what the pure state says, in this world and in every one that has grown out of it. -/
theorem quiet_ok {τ : Nat → TD} (hτ : TOK P τ) {N : Nat} {st : St} {a : Act} (h : Rel κ N st a) {o : Oper} {C : Prop} {r : TV} (hq : quiet τ st o.op = some (C, r)) (hC : C) :
    ∃ u, (∀ w', Sees κ st.obj w' → (execOp a.eval o).run P w' = .ok (.value u) w') ∧ TVR κ r u := by
  obtain ⟨dst, op, ty, pos, after, guard⟩ := o
  simp only at hq
  unfold quiet at hq
  split at hq
  · -- move
    simp only [Option.some.injEq, Prod.mk.injEq] at hq
    obtain ⟨rfl, rfl⟩ := hq
    exact ⟨_, fun w' _ => by simp [execOp], h.get _⟩
  · simp only [Option.some.injEq, Prod.mk.injEq] at hq
    obtain ⟨rfl, rfl⟩ := hq
    exact ⟨_, fun w' _ => by simp [execOp], h.get _⟩
  · -- nilCheck
    rename_i x
    split at hq
    all_goals first
      | (rename_i hx
         simp only [Option.some.injEq, Prod.mk.injEq] at hq
         obtain ⟨rfl, rfl⟩ := hq
         have ht := h.ox hC
         rw [hx] at ht
         generalize hv : a.eval x = v at ht
         refine ⟨v, fun w' _ => ?_, ht⟩
         cases ht <;> simp [execOp, hv])
      | cases hq
  · -- pick
    rename_i c x y
    obtain ⟨⟨C', r'⟩, hl, he⟩ := Option.map_eq_some_iff.1 hq
    simp only [Prod.mk.injEq] at he
    obtain ⟨rfl, rfl⟩ := he
    obtain ⟨u, hr, ht⟩ := pickQ_ok (P := P) (h.get c) (h.get x) (h.get y) hl hC.2 hC.1
    refine ⟨u, fun w' _ => ?_, ht⟩
    have := hr w'
    rw [Sem.run_bind] at this
    simp only [execOp]
    rw [Sem.run_bind]
    cases hb : (asBool (a.eval c)).run P w' with
    | halt h w => rw [hb] at this; cases this
    | ok b w =>
      rw [hb] at this
      simp only [Result.andThen_ok, Sem.run_pure, Result.ok.injEq] at this ⊢
      exact ⟨by rw [this.1], this.2⟩
  · -- load
    rename_i t x
    obtain ⟨⟨C', r'⟩, hl, he⟩ := Option.map_eq_some_iff.1 hq
    simp only [Prod.mk.injEq] at he
    obtain ⟨rfl, rfl⟩ := he
    obtain ⟨u, hr, ht⟩ := load_ok h.o (hτ t) hC.1 (h.ox hC.2.1) hl hC.2.2
    exact ⟨u, fun w' hb => by simp [execOp, hr w' hb], ht⟩
  · -- binOp
    rename_i op t x y yt
    obtain ⟨⟨C', r'⟩, hl, he⟩ := Option.map_eq_some_iff.1 hq
    simp only [Prod.mk.injEq] at he
    obtain ⟨rfl, rfl⟩ := he
    obtain ⟨u, hr, ht⟩ := binQ_ok (hτ t) hC.1 (h.ox hC.2.1) (h.ox hC.2.2.1) hl hC.2.2.2 x y
    exact ⟨u, fun w' hb => by have := hr w'; simp only [execOp]; rw [Sem.run_bind, this]; rfl, ht⟩
  · -- unOp
    rename_i op t x
    obtain ⟨⟨C', r'⟩, hl, he⟩ := Option.map_eq_some_iff.1 hq
    simp only [Prod.mk.injEq] at he
    obtain ⟨rfl, rfl⟩ := he
    obtain ⟨u, hr, ht⟩ := unQ_ok (P := P) (h.ox hC.1) hl
    exact ⟨u, fun w' hb => by simp [execOp, hr w'], ht⟩
  · -- convert
    rename_i s d x
    obtain ⟨⟨C', r'⟩, hl, he⟩ := Option.map_eq_some_iff.1 hq
    simp only [Prod.mk.injEq] at he
    obtain ⟨rfl, rfl⟩ := he
    obtain ⟨u, hr, ht⟩ := convQ_ok hτ hC.1 (h.ox hC.2.1) hl hC.2.2
    exact ⟨u, fun w' hb => by simp [execOp, hr w' hb.1], ht⟩
  · -- makeFunc
    rename_i f caps
    simp only [Option.some.injEq, Prod.mk.injEq] at hq
    obtain ⟨rfl, rfl⟩ := hq
    refine ⟨.func (.func f) #[] (caps.map a.eval).toArray, fun w' _ => by simp [execOp, Instr.makeFunc], .clo _ _ _ (by simp [argsOf_length]) (args_ok h caps hC)⟩
  · -- slice
    rename_i t x lo hi m
    obtain ⟨⟨C', r'⟩, hl, he⟩ := Option.map_eq_some_iff.1 hq
    simp only [Prod.mk.injEq] at he
    obtain ⟨rfl, rfl⟩ := he
    obtain ⟨u, hr, ht⟩ := slice_ok hτ h hC.1 hC.2.1 hl hC.2.2
    exact ⟨u, fun w' hb => by simp [execOp, hr w'], ht⟩
  · -- fieldAddr
    rename_i t x f
    obtain ⟨⟨C', r'⟩, hl, he⟩ := Option.map_eq_some_iff.1 hq
    simp only [Prod.mk.injEq] at he
    obtain ⟨rfl, rfl⟩ := he
    obtain ⟨u, hr, ht⟩ := fieldAddr_ok (hτ t) hC.1 (h.ox hC.2.1) hl hC.2.2
    exact ⟨u, fun w' hb => by simp [execOp, hr w'], ht⟩
  · -- field
    rename_i t x f
    obtain ⟨⟨C', r'⟩, hl, he⟩ := Option.map_eq_some_iff.1 hq
    simp only [Prod.mk.injEq] at he
    obtain ⟨rfl, rfl⟩ := he
    obtain ⟨u, hr, ht⟩ := field_ok hτ hC.1 (h.ox hC.2.1) hl hC.2.2
    exact ⟨u, fun w' hb => by simp [execOp, hr w'], ht⟩
  · -- indexAddr
    rename_i t x i
    split at hq
    · rename_i n hn
      obtain ⟨⟨C', r'⟩, hl, he⟩ := Option.map_eq_some_iff.1 hq
      simp only [Prod.mk.injEq] at he
      obtain ⟨rfl, rfl⟩ := he
      obtain ⟨ik, ei⟩ := intI_ok (h.ox hC.2.2.1) hn
      obtain ⟨u, hr, ht⟩ := indexAddrS_ok (ik := ik) hτ h.o hC.1 (h.ox hC.2.1) hl hC.2.2.2
      exact ⟨u, fun w' hb => by simp [execOp, ei, hr w'], ht⟩
    · cases hq
  · -- index
    rename_i t x i
    split at hq
    · rename_i n hn
      obtain ⟨⟨C', r'⟩, hl, he⟩ := Option.map_eq_some_iff.1 hq
      simp only [Prod.mk.injEq] at he
      obtain ⟨rfl, rfl⟩ := he
      obtain ⟨ik, ei⟩ := intI_ok (h.ox hC.2.2.1) hn
      obtain ⟨u, hr, ht⟩ := index_ok (ik := ik) hτ hC.1 (h.ox hC.2.1) hl hC.2.2.2
      exact ⟨u, fun w' hb => by simp [execOp, ei, hr w'], ht⟩
    · cases hq
  · -- lookup
    rename_i t x i ok
    split at hq
    · rename_i n hn
      obtain ⟨⟨C', r'⟩, hl, he⟩ := Option.map_eq_some_iff.1 hq
      simp only [Prod.mk.injEq] at he
      obtain ⟨rfl, rfl⟩ := he
      have ei := natI_ok (h.ox hC.2.2.1) hn
      obtain ⟨u, hr, ht⟩ := lookup_ok hτ h.o hC.1 (h.ox hC.2.1) hl hC.2.2.2
      exact ⟨u, fun w' hb => by simp [execOp, ei, hr w' hb], ht⟩
    · cases hq
  · -- extract
    rename_i x i
    split at hq
    · rename_i vs hvs
      simp only [Option.some.injEq, Prod.mk.injEq] at hq
      obtain ⟨rfl, rfl⟩ := hq
      have hx := h.ox hC.1
      rw [hvs] at hx
      generalize hv : a.eval x = v at hx
      cases hx with
      | tup vs us hl hh =>
        have hi := hC.2
        have hj : us[i]? = some (us[i]'(by omega)) := List.getElem?_eq_getElem (by omega)
        have hc : vs[i]? = some (vs[i]'hi) := List.getElem?_eq_getElem hi
        have hlt : i < us.length := by omega
        refine ⟨us[i]'(by omega), fun w' _ => by simp [execOp, hv, Instr.extract, hlt], ?_⟩
        rw [List.getD_eq_getElem?_getD, hc]
        exact hh i _ _ hc hj
    · cases hq
  · -- build
    rename_i t ps
    obtain ⟨u, hr, ht⟩ := build_ok hτ h hq hC
    refine ⟨u, fun w' _ => ?_, ht⟩
    have := hr w'
    simp only [execOp, List.map_toArray, Sem.run_bind]
    simp [this]
  · -- len
    rename_i x t
    obtain ⟨⟨C', r'⟩, hl, he⟩ := Option.map_eq_some_iff.1 hq
    simp only [Prod.mk.injEq] at he
    obtain ⟨rfl, rfl⟩ := he
    obtain ⟨u, hr, ht⟩ := lenS_ok (hτ t) hC.1 h.o (ty := ty) (h.ox hC.2.1) hl
    exact ⟨u, fun w' _ => by simp [execOp, resolve, invoke, builtin, hr w'], ht⟩
  · -- cap
    rename_i x t
    split at hq
    · rename_i e hkd hx
      simp only [Option.some.injEq, Prod.mk.injEq] at hq
      obtain ⟨rfl, rfl⟩ := hq
      have hv := h.ox hC.2
      rw [hx] at hv
      exact ⟨_, fun w' _ => by simp [execOp, resolve, invoke, builtin, cap_ok (hτ t) hC.1 hkd hv], .iv _ _ (.lit _)⟩
    · cases hq
  · -- min
    rename_i xs ts
    obtain ⟨n, hn, he⟩ := Option.map_eq_some_iff.1 hq
    simp only [Prod.mk.injEq] at he
    obtain ⟨rfl, rfl⟩ := he
    refine ⟨_, fun w' _ => ?_, .iv _ _ (.lit _)⟩
    have := minI_ok (P := P) (κ := κ) (vs := xs.map a.eval) (by simp [argsOf_length]) (args_ok h xs hC) hn ts ty w'
    simp [execOp, resolve, invoke, builtin, this]
  · -- max
    rename_i xs ts
    obtain ⟨n, hn, he⟩ := Option.map_eq_some_iff.1 hq
    simp only [Prod.mk.injEq] at he
    obtain ⟨rfl, rfl⟩ := he
    refine ⟨_, fun w' _ => ?_, .iv _ _ (.lit _)⟩
    have := maxI_ok (P := P) (κ := κ) (vs := xs.map a.eval) (by simp [argsOf_length]) (args_ok h xs hC) hn ts ty w'
    simp [execOp, resolve, invoke, builtin, this]
  · cases hq
end
end Go.PL
