/- LOOPS OVER FUNCTIONS: a round, and the statement. -/
import Derived.Test.YtmocgjimlhgejaaKB13
import Derived.RangeFuncRecord
namespace Go.PL
open Go.RowKit (Below)
set_option linter.unusedSimpArgs false
set_option linter.unusedVariables false

def TV.kp1 : TV → Bool
  | .acc _ _ _ => false
  | .clo _ _ => false
  | .tup _ => false
  | .wh _ _ => false
  | _ => true
/-- What is still known of a value of a frame that has not moved while others have. -/
def keepT : TV → TV
  | .acc _ sz xs => .iv (.sl sz xs)
  | .clo g cs => bif cs.all TV.kp1 then .clo g cs else .any
  | .tup cs => bif cs.all TV.kp1 then .tup cs else .any
  | .wh b t => bif t.kp1 then .wh b t else .any
  | t => t
def keepE : List (Nat × TV) → List (Nat × TV)
  | [] => []
  | (i, t) :: l => (i, keepT t) :: keepE l
def setPs : List (Nat × TV) → List Nat → List TV → List (Nat × TV)
  | env, p :: ps, t :: ts => setPs ((p, t) :: env) ps ts
  | env, _, _ => env
section
variable {P : Program} {κ κ' : Kx} {N m : Nat}
theorem TVR.kp1 (he : Ext κ κ') (hk : Keep κ.n κ κ') {t : TV} {v : Value} (h : TVR κ t v) (hf : t.kp1 = true) : TVR κ' t v := by
  have tk : ∀ k, k < κ.n → isPtr (κ.tk k) = true → κ'.tk k = κ.tk k := hk.tk
  have lt : ∀ {k}, k < κ.n → k < κ'.n := fun h => Nat.lt_of_lt_of_le h hk.n
  cases h with
  | any v => exact .any v
  | iv x v h => exact .iv x v (he.iv h)
  | nilsl => exact .nilsl
  | nsl sz xs ad n c h => exact .nsl sz xs ad n c (he.iv h)
  | acc k sz xs hk h => simp [TV.kp1] at hf
  | bptr k off b hk h => exact .bptr k off b (lt hk) (by rw [tk k hk (by rw [h]; rfl)]; exact h)
  | mptr k b hk h => exact .mptr k b (lt hk) (by rw [tk k hk (by rw [h]; rfl)]; exact h)
  | mrow k A n c hk h => exact .mrow k A n c (lt hk) (by rw [tk k hk (by rw [h]; rfl)]; exact h)
  | eptr k sz i off b n c hk h => exact .eptr k sz i off b n c (lt hk) (by rw [tk k hk (by rw [h]; rfl)]; exact h)
  | yld k b hk h => exact .yld k b (lt hk) (by rw [tk k hk (by rw [h]; rfl)]; exact h)
  | rptr cs ad us hl h1 ha h =>
    refine .rptr cs ad us hl h1 (fun j u hu => ?_) fun j c u hc hu => he.iv (h j c u hc hu)
    obtain ⟨hc, hp⟩ := ha j u hu
    exact ⟨by rw [(he.prot _ hp).2]; exact hc, (he.prot _ hp).1⟩
  | clo f caps us hl h => simp [TV.kp1] at hf
  | tup vs us hl h => simp [TV.kp1] at hf
  | wh b t v h hu => simp [TV.kp1] at hf
theorem TVR.keepT (he : Ext κ κ') (hk : Keep κ.n κ κ') {t : TV} {v : Value} (h : TVR κ t v) : TVR κ' (PL.keepT t) v := by
  cases h with
  | acc k sz xs hk h => exact .iv _ _ (he.iv h)
  | clo f caps us hl h =>
    simp only [PL.keepT]
    cases e : caps.all TV.kp1
    · exact .any _
    · exact .clo f caps us hl (fun j c u hc hu => (h j c u hc hu).kp1 he hk (List.all_eq_true.1 e c (List.mem_of_getElem? hc)))
  | tup vs us hl h =>
    simp only [PL.keepT]
    cases e : vs.all TV.kp1
    · exact .any _
    · exact .tup vs us hl (fun j c u hc hu => (h j c u hc hu).kp1 he hk (List.all_eq_true.1 e c (List.mem_of_getElem? hc)))
  | wh b t v h hu =>
    simp only [PL.keepT]
    cases e : t.kp1
    · exact .any _
    · exact .wh b t v (fun hb => (h hb).kp1 he hk e) hu
  | any v => exact .any v
  | iv x v h => exact (TVR.iv x v h).kp1 he hk rfl
  | nilsl => exact .nilsl
  | nsl sz xs ad n c h => exact (TVR.nsl sz xs ad n c h).kp1 he hk rfl
  | bptr k off b h1 h => exact (TVR.bptr k off b h1 h).kp1 he hk rfl
  | mptr k b h1 h => exact (TVR.mptr k b h1 h).kp1 he hk rfl
  | mrow k A n c h1 h => exact (TVR.mrow k A n c h1 h).kp1 he hk rfl
  | eptr k sz i off b n c h1 h => exact (TVR.eptr k sz i off b n c h1 h).kp1 he hk rfl
  | yld k b h1 h => exact (TVR.yld k b h1 h).kp1 he hk rfl
  | rptr cs ad us hl h1 ha h => exact (TVR.rptr cs ad us hl h1 ha h).kp1 he hk rfl
theorem look?_keepE : ∀ (l : List (Nat × TV)) (i : Nat), look? (keepE l) i = (look? l i).map PL.keepT
  | [], i => rfl
  | (j, t) :: l, i => by
    simp only [keepE, look?]
    cases h : i == j <;> simp [look?_keepE l i]

theorem setPs_ok : ∀ (ps : List Nat) (ts : List TV) (vs : List Value) (env : List (Nat × TV)) (tmps : Array Value), (∀ p ∈ ps, p < tmps.size) → vs.length = ts.length → (∀ (j : Nat) (t : TV) (v : Value), ts[j]? = some t → vs[j]? = some v → TVR κ t v) →
    (∀ i, TVR κ (look .any env i) (tmps.getD i undef)) →
    (((ps.zip vs).foldl (fun (tmps : Array Value) (x : Nat × Value) => tmps.setIfInBounds x.1 x.2) tmps).size = tmps.size ∧ ∀ i, TVR κ (look .any (setPs env ps ts) i) (((ps.zip vs).foldl (fun (tmps : Array Value) (x : Nat × Value) => tmps.setIfInBounds x.1 x.2) tmps).getD i undef))
  | [], _, _, env, tmps, _, _, _, h => ⟨rfl, by simpa [setPs] using h⟩
  | p :: ps, [], [], env, tmps, _, _, _, h => ⟨rfl, by simpa [setPs] using h⟩
  | p :: ps, [], v :: vs, env, tmps, _, hl, _, _ => by simp at hl
  | p :: ps, t :: ts, [], env, tmps, _, hl, _, _ => by simp at hl
  | p :: ps, t :: ts, v :: vs, env, tmps, hp, hl, ht, h => by
    have hps : p < tmps.size := hp p (List.mem_cons_self ..)
    have ih := setPs_ok ps ts vs ((p, t) :: env) (tmps.setIfInBounds p v) (fun q hq => by simpa using hp q (List.mem_cons_of_mem _ hq)) (by simpa using hl) (fun j t v h1 h2 => ht (j + 1) t v (by simpa using h1) (by simpa using h2)) (fun i => by
      simp only [look]
      by_cases e : i = p
      · subst e
        simp only [beq_self_eq_true, cond_true]
        have : (tmps.setIfInBounds i v).getD i undef = v := by simp [Array.getD, hps]
        rw [this]
        exact ht 0 t v rfl rfl
      · rw [beq_eq_false_iff_ne.2 e, cond_false]
        have : (tmps.setIfInBounds p v).getD i undef = tmps.getD i undef := by
          simp only [Array.getD_eq_getD_getElem?, Array.getElem?_setIfInBounds]
          rw [if_neg (fun q => e q.symm)]
        rw [this]
        exact h i)
    simp only [List.zip_cons_cons, List.foldl_cons, setPs]
    refine ⟨ih.1.trans (by simp), ih.2⟩

theorem blk_putObj {w : World} {r k : Nat} {o : Obj} (h : k ≠ r) : (w.putObj r o).heap[k]? = w.heap[k]? := World.putObj_heap_other h

/-- The record of a loop turns. -/
theorem Rel.lpPut {st : St} {a : Act} (h : Rel κ N st a) {k M s s' : Nat} {ps : List Nat} {as bd : Code} {env : List (Nat × TV)} (hk : look? st.obj k = some (.lp (4 * M + s) ps as bd env)) (hs : s < 4) (hs' : s' < 4) :
    ∃ (b d : Nat) (fn : FuncId) (tmps : Array Value), κ.tk k = .func (.yield b) #[] #[] ∧ κ.w.heap[b]? = some (.loop { state := lpS s, pending := none, fn := fn, tmps := tmps, params := ps.toArray, assign := as, body := bd, defers := d }) ∧
      (tmps.size = M ∧ ∀ i, TVR κ (look .any env i) (tmps.getD i undef)) ∧
      Rel { κ with w := κ.w.putObj b (.loop { state := lpS s', pending := none, fn := fn, tmps := tmps, params := ps.toArray, assign := as, body := bd, defers := d }) } N (st.setOb k (.lp (4 * M + s') ps as bd env)) a ∧
      Ext κ { κ with w := κ.w.putObj b (.loop { state := lpS s', pending := none, fn := fn, tmps := tmps, params := ps.toArray, assign := as, body := bd, defers := d }) } := by
  obtain ⟨hkn, b, d, fn, tmps, e1, e2, ⟨e3, e4⟩, e5, e6⟩ := h.o.obs k _ hk
  have m1 : ∀ s, s < 4 → lpS (4 * M + s) = lpS s := fun s hs => by
    have e : (4 * M + s) % 4 = s % 4 := by omega
    simp only [lpS, e]
  have m2 : ∀ s, s < 4 → (4 * M + s) / 4 = M := fun s hs => by omega
  rw [m1 s hs] at e2
  rw [m2 s hs] at e3
  have hlt : b < κ.w.heap.size := (Array.getElem?_eq_some_iff.1 e2).1
  let κ' : Kx := { κ with w := κ.w.putObj b (.loop { state := lpS s', pending := none, fn := fn, tmps := tmps, params := ps.toArray, assign := as, body := bd, defers := d }) }
  have hup := h.updOb (κ' := κ') (o' := .lp (4 * M + s') ps as bd env) hk rfl rfl rfl (by show κ.w.heap.size ≤ (κ.w.putObj b _).heap.size; simp) (fun b' hb' hne => blk_putObj (fun e => hne (by rw [e1, e]; rfl))) (fun a ha e => by
      rw [e1] at e; injection e with e; exact e6 a ha e.symm) rfl rfl rfl rfl (fun he => ⟨b, d, fn, tmps, e1, by
        show (κ.w.putObj b _).heap[b]? = _
        rw [World.putObj_heap_same hlt, m1 s' hs'], ⟨by rw [m2 s' hs']; exact e3, fun i => (e4 i).mono he (Nat.le_refl _) (fun _ _ => rfl)⟩, e5, e6⟩)
  exact ⟨b, d, fn, tmps, e1, e2, ⟨e3, e4⟩, hup.1, hup.2⟩

theorem Rel.dropOb {st : St} {a : Act} (h : Rel κ N st a) (k : Nat) : Rel κ N ⟨st.env, rmAt st.obj k, st.nx⟩ a := by
  have key : ∀ i o, look? (rmAt st.obj k) i = some o → look? st.obj i = some o := by
    intro i o hi
    rw [look?_rmAt _ _ _ h.o.nd] at hi
    split at hi
    · cases hi
    · exact hi
  exact ⟨⟨fun i o hi => h.o.obs i o (key i o hi), fun i o j o' hi hj => h.o.dis i o j o' (key i o hi) (key j o' hj), keysNd_rmAt _ _ h.o.nd, h.o.prot, h.o.fr⟩, h.env, h.size, h.nodef, h.nx⟩

/-- One round. -/
theorem PYield.round {k M : Nat} {st : St} {ps : List Nat} {as bd : Code} {env : List (Nat × TV)} {args : List TV} {K : TV → St → Prop} (hk : look? st.obj k = some (.lp (4 * M) ps as bd env)) (hlen : args.length = ps.length) (hps : ps.all (fun p => decide (p < M)) = true)
    (h : ∀ l, PWpF (some l) P M st.nx as (fun e st1 => e = .normal ∧ ∃ env1, look? st1.obj k = some (.lp (4 * M) ps as bd env1) ∧
      PWpF (some l) P M st.nx bd (fun e st2 => e = .normal ∧ ∃ env2, look? st2.obj k = some (.lp (4 * M + 1) ps as bd env2) ∧ ∃ st3, Gh st.nx (st2.setOb k (.lp (4 * M) ps as bd env2)) st3 ∧ K (boolTV true) ⟨keepE st.env, st3.obj, st3.nx⟩) (st1.setOb k (.lp (4 * M + 1) ps as bd env1))) ⟨setPs env ps args, st.obj, st.nx⟩) : PYield P m k args st K := by
  intro κ N a vs b hr hm hb hl hargs
  obtain ⟨b', d, fn, tmps, e1, e2, ⟨e3, e4⟩, _, _⟩ := hr.lpPut (s := 0) (s' := 0) (M := M) (by rw [Nat.add_zero]; exact hk) (by omega) (by omega)
  rw [hb] at e1
  obtain rfl : b = b' := by injection e1 with e1; injection e1
  have hps' : ∀ p ∈ ps, p < tmps.size := fun p hp => by rw [e3]; simpa using List.all_eq_true.1 hps p hp
  obtain ⟨s1, s2⟩ := setPs_ok ps args vs env tmps hps' hl hargs e4
  have hy := run_yield (P := P) (args := vs.toArray) e2 (by simp [hl, hlen])
  refine ⟨fn, _, as, bd, hy, ?_⟩
  refine roundIn_of_wpIn (F := Fence.wide) trivial ?_
  have hfold : ∀ (l : List (Nat × Value)) (t : Array Value), l.toArray.foldl (fun (tmps : Array Value) (x : Nat × Value) => tmps.setIfInBounds x.1 x.2) t = l.foldl (fun (tmps : Array Value) (x : Nat × Value) => tmps.setIfInBounds x.1 x.2) t := fun l t => by simp
  have hz : ((ps.toArray.zip vs.toArray).foldl (fun tmps (x : Nat × Value) => tmps.setIfInBounds x.1 x.2) tmps) = (ps.zip vs).foldl (fun (tmps : Array Value) (x : Nat × Value) => tmps.setIfInBounds x.1 x.2) tmps := by
    rw [List.zip_toArray]; exact hfold _ _
  let κr : Kx := { κ with F := ⟨κ.F.p, (κ.F.bd.1, [])⟩ }
  have hrel0 : Rel κr M ⟨setPs env ps args, st.obj, st.nx⟩ { tmps := (ps.toArray.zip vs.toArray).foldl (fun tmps (x : Nat × Value) => tmps.setIfInBounds x.1 x.2) tmps, defers := [] } := by
    refine ⟨hr.o.bd _, fun i => ?_, ?_, ⟨hr.nodef.1, [], rfl, List.nodup_nil, by simp⟩, hr.nx⟩
    · rw [hz]; exact (s2 i).bd _
    · rw [hz]; exact s1.trans e3
  have hn : κ.n = st.nx := hr.nx
  refine wpIn_mono (F := Fence.wide.inRound b) (h b κr _ hrel0 (Nat.le_of_eq hn.symm)) ?_
  rintro e a1 w1 ⟨κ1, st1, rfl, h1, x1, k1, rfl, env1, hl1, hbody⟩
  obtain ⟨b1, d1, fn1, tmps1, f1, f2, ⟨f3, f4⟩, f5, f6⟩ := h1.lpPut (s := 0) (s' := 1) (M := M) (by rw [Nat.add_zero]; exact hl1) (by omega) (by omega)
  have hkn : k < st.nx := by rw [← hn]; exact (hr.o.obs k _ hk).1
  have hb1 : b1 = b := by
    rw [k1.tk k (by omega) (by show isPtr (κ.tk k) = true; rw [hb]; rfl), show κr.tk k = _ from hb] at f1
    injection f1 with f1; injection f1 with f1; exact f1.symm
  subst hb1
  refine ⟨_, run_beginRound f2 rfl, ?_⟩
  refine wpIn_mono (F := Fence.wide.inRound b1) (hbody _ a1 f5 k1.n) ?_
  rintro e a2 w2 ⟨κ2, st2, rfl, h2, x2, k2, rfl, env2, hl2, st3, g3, hK⟩
  obtain ⟨b2, d2, fn2, tmps2, g1, g2, _, g5, g6⟩ := h2.lpPut (s := 1) (s' := 0) (M := M) hl2 (by omega) (by omega)
  have k12r : Keep st.nx κr κ2 := k1.trans ⟨k2.n, fun j hj hp => k2.tk j hj hp⟩
  have k12 : Keep st.nx κ κ2 := ⟨k12r.n, k12r.tk⟩
  have hb2 : b2 = b1 := by
    rw [k12.tk k (by omega) (by rw [hb]; rfl), hb] at g1
    injection g1 with g1; injection g1 with g1; exact g1.symm
  subst hb2
  have hend := run_endRound (P := P) none g2
  rw [Nat.add_zero] at g5
  obtain ⟨κ3, e3', h3, x3, k3⟩ := g3 _ _ _ g5 k12.n
  have hx0 : Ext κr κ3 := (x1.trans f6).trans (x2.trans (g6.trans x3))
  let κ4 : Kx := { κ3 with F := ⟨κ3.F.p, κ.F.bd⟩ }
  have hx : Ext κ κ4 := ⟨hx0.os, hx0.tape, hx0.output, hx0.size, ⟨hx0.F.1, rfl⟩, hx0.fr, hx0.prot, hx0.np⟩
  have hk3 : Keep st.nx κ κ4 := ⟨k3.n, fun j hj hp => by
    have e := k12.tk j hj hp
    rw [← e]
    exact k3.tk j hj (by rw [e]; exact hp)⟩
  refine ⟨_, _, hend, κ4, _, boolTV true, ⟨keepE st.env, st3.obj, st3.nx⟩, rfl, ?_, ⟨h3.o.bd _, fun i => ?_, hr.size, dfx hx hr.nodef, h3.nx⟩, hx, ⟨Nat.le_trans hm (by rw [hn]; exact hk3.n), fun j hj hp => hk3.tk j (by omega) hp⟩, .iv _ _ (.lit _), hK⟩
  · show κ3.w = _; rw [e3']; rfl
  · have := hr.env i
    simp only [St.get, look_eq] at this ⊢
    rw [look?_keepE]
    cases hq : look? st.env i with
    | none => exact .any _
    | some t =>
      rw [hq] at this
      exact this.keepT hx (by rw [hn]; exact hk3)

/-- THE STATEMENT: a loop over a function. -/
theorem PWp.rangeFunc {g : Operand} {ps : List Nat} {as bd : Code} {Q : Exit → St → Prop} {st : St} {gf : FuncId} {caps : List TV} (hg : ox st g = .clo gf caps) (hgp : op? st g) (env' : List (Nat × TV)) (henv : envle st st.nx env')
    (h : ∀ as' bd', as' = as → bd' = bd → PCall P (st.nx + 1) gf (.yld st.nx :: caps) ⟨st.env, (st.nx, .lp (4 * N) ps as' bd' env') :: st.obj, st.nx + 1⟩ (fun _ st2 => ∃ env2, look? st2.obj st.nx = some (.lp (4 * N) ps as' bd' env2) ∧ Q .normal ⟨st2.env, rmAt st2.obj st.nx, st2.nx⟩)) :
    PWpF none P N m (.rangeFunc g ps.toArray as bd) Q st := by
  intro κ a hr hm
  have hfv := hr.ox hgp
  rw [hg] at hfv
  generalize hfe : a.eval g = fv at hfv
  have hsz := hr.size
  cases hfv with
  | clo _ _ us hlu hus =>
  obtain ⟨⟨fn0, c0, hfn0, hbody0, hname0⟩, hcall⟩ := h as bd rfl rfl
  have hn2 : ¬ fn0.name = "runtime.NumGoroutine" := by simpa using hname0
  refine wpIn_rangeFunc (F := Fence.wide) (fun fn _ => ?_)
  let D := κ.w.heap.size
  let L : Loop := { state := .ready, pending := none, fn := fn, tmps := a.tmps, params := ps.toArray, assign := as, body := bd, defers := D }
  let W1 := (κ.w.alloc (.deferred (some []))).alloc (.loop L)
  let a1 : Act := { a with defers := { target := .collected D, args := #[] } :: a.defers }
  -- THE WORLD WITH THE BLOCK AND THE RECORD
  let κa : Kx := ⟨κ.w.alloc (.deferred (some [])), κ.prot, ⟨fun b => κ.F b ∨ b = D, κ.F.bd⟩, κ.tk, κ.n⟩
  have hxa : Ext κ κa := ⟨rfl, rfl, rfl, by show κ.w.heap.size ≤ (κ.w.alloc _).heap.size; simp, ⟨fun b hb => .inl hb, rfl⟩, fun b hb => heap_alloc_old κ.w _ b (hr.o.fr b hb), fun x hx => ⟨hx, World.cell?_alloc_lt κ.w _ x (prot_lt hr.o.prot hx)⟩, fun x hx => .inl hx⟩
  have hra : Rel κa N st a1 := by
    refine ⟨⟨fun k o hk => ?_, hr.o.dis, hr.o.nd, fun x hx => ?_, fun b hb => ?_⟩, fun i => (hr.env i).mono hxa (Nat.le_refl _) (fun _ _ => rfl), hr.size, ?_, hr.nx⟩
    · obtain ⟨q1, q2⟩ := hr.o.obs k o hk
      -- first with the old fence, then with the new one
      let κb : Kx := { κa with F := κ.F }
      have hxb : Ext κ κb := ⟨hxa.os, hxa.tape, hxa.output, hxa.size, ⟨fun b hb => hb, rfl⟩, hxa.fr, hxa.prot, hxa.np⟩
      have q3 : ObR κb k o := q2.keep hxb (fun _ hb => hb) (Nat.le_refl _) (fun _ _ => rfl) q1 (fun b hb => heap_alloc_old κ.w _ b (q2.lt hb).1) (fun x hx => .inl hx)
      refine ⟨q1, ?_⟩
      have hnF : ∀ b, Own (κ.tk k) b → ¬ (κ.F b ∨ b = D) := by
        rintro b hb (hf | rfl)
        · exact (q2.lt hb).2 hf
        · exact Nat.lt_irrefl _ (q2.lt hb).1
      have hT : ∀ t v, TVR κb t v → TVR κa t v := fun t v h => TVR.monoP (κ := κb) (κ' := κa) (h := h) (fun a ha => ⟨ha, rfl⟩) (Nat.le_refl _) (fun _ _ => rfl)
      cases o with
      | box ty cs =>
        obtain ⟨b, vs, e1, e2, e3, e4, e5, e6, e7⟩ := q3
        exact ⟨b, vs, e1, e2, e3, fun j c u hc hu => hT _ _ (e4 j c u hc hu), e5, hnF b (by rw [show κ.tk k = _ from e1]; rfl), e7⟩
      | row e sz =>
        rcases q3 with h0 | ⟨b, nn, c, cur, e1, e2, e3, e4, e5, e6, e7⟩
        · exact .inl h0
        · exact .inr ⟨b, nn, c, cur, e1, e2, e3, e4, e5, hnF b (by rw [show κ.tk k = _ from e1]; rfl), e7⟩
      | map kt vt es =>
        obtain ⟨b, ms, clock, e1, e2, e3, e4, e5, e6⟩ := q3
        exact ⟨b, ms, clock, e1, e2, e3, fun j p e hp' he => ⟨(e4 j p e hp' he).1, hT _ _ (e4 j p e hp' he).2⟩, hnF b (by rw [show κ.tk k = _ from e1]; rfl), e6⟩
      | mrow e sz xs =>
        obtain ⟨A, c, vs, e1, e2, e3, e4, e5, hmm⟩ := q3
        refine ⟨A, c, vs, e1, e2, e3, e4, e5, ?_⟩
        rcases hmm with hmm | ⟨b, cur, rfl, f1, f2, f3, f4, f5, f6, f7⟩
        · exact .inl hmm
        · exact .inr ⟨b, cur, rfl, f1, f2, f3, f4, f5, hnF b (by rw [show κ.tk k = _ from e1]; rfl), f7⟩
      | lrow e sz v xs =>
        obtain ⟨e0, ei, q3⟩ := q3
        refine ⟨e0, ei, ?_⟩
        rcases q3 with h0 | ⟨b, nn, c, cur, e1, e2, e3, e4, e5, e6, e7⟩
        · exact .inl h0
        · exact .inr ⟨b, nn, c, cur, e1, e2, e3, e4, e5, hnF b (by rw [show κ.tk k = _ from e1]; rfl), e7⟩
      | pins e rs =>
        obtain ⟨e1, e2, e3⟩ := q3
        refine ⟨e1, e2, fun b xs hx => ?_⟩
        obtain ⟨us, g1, g2, g3, g4, g5, g6⟩ := e3 b xs hx
        exact ⟨us, g1, g2, g3, g4, hnF b (by rw [show κ.tk k = _ from e1]; exact (own_pins rs b).2 ⟨xs, hx⟩), g6⟩
      | lp s ps as bd env =>
        obtain ⟨b, d, fn, tmps, e1, e2, e3, e6, e7⟩ := q3
        exact ⟨b, d, fn, tmps, e1, e2, ⟨e3.1, fun i => hT _ _ (e3.2 i)⟩, hnF b (by rw [show κ.tk k = _ from e1]; rfl), e7⟩
    · rw [(hxa.prot x hx).2]; exact hr.o.prot x hx
    · show b < (κ.w.alloc _).heap.size
      rcases hb with hb | rfl
      · exact Nat.lt_of_lt_of_le (hr.o.fr b hb) hxa.size
      · simp [D]
    · obtain ⟨hb0, Ds, hds, hnd, hDD⟩ := hr.nodef
      refine ⟨Nat.le_trans hb0 hxa.size, D :: Ds, by show _ :: a.defers = _; rw [hds]; rfl, List.nodup_cons.2 ⟨fun hm => ?_, hnd⟩, fun D' hD' => ?_⟩
      · have := hr.o.fr D (hDD D hm).1
        exact Nat.lt_irrefl _ this
      · rcases List.mem_cons.1 hD' with rfl | hD'
        · exact ⟨.inr rfl, hb0, by show (κ.w.alloc _).heap[_]? = _; exact heap_alloc_new κ.w _⟩
        · obtain ⟨q1, q2, q3⟩ := hDD D' hD'
          exact ⟨.inl q1, q2, (hxa.fr D' q1).trans q3⟩
  let yv : Value := .func (.yield (D + 1)) #[] #[]
  let κ1 : Kx := ⟨W1, κ.prot, κa.F, updF κ.tk κ.n yv, κ.n + 1⟩
  have hsa : κa.w.heap.size = D + 1 := by show (κ.w.alloc _).heap.size = _; simp [D]
  have hx1 : Ext κa κ1 := Ext.alloc hra.o (.loop L) rfl rfl (fun x hx => hx) (fun x hx => .inl hx)
  have hT1 : ∀ t v, TVR κa t v → TVR κ1 t v := fun t v ht => ht.mono hx1 (Nat.le_succ _) (fun k hk => updF_ne _ _ (show k ≠ κ.n by exact Nat.ne_of_lt hk))
  have htkn : κ1.tk κ.n = yv := updF_same _ _ _
  have hr1 := hra.newOb (κ' := κ1) (o := .lp (4 * N) ps as bd env') (ob := .loop L) (tv := yv) rfl rfl rfl rfl rfl (fun b hb => by injection hb with hb; rw [hsa]; exact hb.symm)
    ⟨D + 1, D, fn, a.tmps, htkn, by
        show (κa.w.alloc _).heap[_]? = _
        rw [← hsa, heap_alloc_new]
        simp [L, lpS, Nat.mul_mod_right], ⟨by rw [hsz]; omega, fun i => by
          rw [look_eq]
          rcases envle_get env' henv i with h0 | ⟨t, h0, hle, hok⟩
          · rw [h0]; exact .any _
          · rw [h0]
            exact hT1 _ _ ((hra.env i).le hle)⟩, fun hF => by
        rcases hF with hF | hF
        · have := hr.o.fr _ hF; omega
        · omega, fun x hx e => by have := prot_lt hr.o.prot hx; simp only [D] at e; omega⟩
  refine ⟨D + 1, [{ target := .collected D, args := #[] }], W1, { target := .fn (.func gf) us.toArray, args := #[yv] }, W1, gf, #[yv] ++ us.toArray, W1, run_enterLoop_outer _ _ _ _ _, ?_, fun _ _ => trivial, ?_, fun e => (by cases e), ?_⟩
  · simp only [resolve, hfe]
    simp [yv, Deferred.ofValue]
    rfl
  · simp [invoke, callFunc, hfn0, hbody0, hn2]
  · refine callsIn_wide.2 ?_
    have hst : st.new (.lp (4 * N) ps as bd env') = ⟨st.env, (st.nx, .lp (4 * N) ps as bd env') :: st.obj, st.nx + 1⟩ := rfl
    have hc := hcall κ1 N a1 (yv :: us) (by rw [← hst]; exact hr1.1) (by show st.nx + 1 ≤ κ.n + 1; have := hr.nx; omega) (by simp [hlu]) (fun j t v ht hv => by
      cases j with
      | zero =>
        simp only [List.getElem?_cons_zero, Option.some.injEq] at ht hv
        subst ht; subst hv
        exact .yld _ _ (by show st.nx < κ.n + 1; rw [hr.nx]; omega) (by rw [← hr.nx]; exact htkn)
      | succ j =>
        simp only [List.getElem?_cons_succ] at ht hv
        exact hT1 _ _ ((hus j t v ht hv).mono hxa (Nat.le_refl _) (fun _ _ => rfl)))
    rw [show #[yv] ++ us.toArray = (yv :: us).toArray by simp]
    refine Calls.mono hc ?_
    rintro e w' ⟨κ2, v, t, st2, rfl, rfl, h2, x2, k2, ht2, env2, hl2, hQ⟩
    obtain ⟨b2, d2, fn2, tmps2, g1, g2, _, g5, g6⟩ := h2.lpPut (s := 0) (s' := 2) (M := N) (by rw [Nat.add_zero]; exact hl2) (by omega) (by omega)
    have hb2 : b2 = D + 1 := by
      have hk := k2.tk st.nx (Nat.lt_succ_self _) (by rw [← hr.nx, htkn]; rfl)
      rw [← hr.nx, htkn] at hk
      rw [← hr.nx, hk] at g1
      injection g1 with g1; injection g1 with g1; exact g1.symm
    subst hb2
    have hend := run_endLoop (P := P) g2 (by simp [lpS])
    have hx : Ext κ κ2 := (hxa.trans hx1).trans x2
    refine ⟨_, _, hend, ?_⟩
    refine ⟨{ κ2 with w := κ2.w.putObj (D + 1) _ }, ⟨st2.env, rmAt st2.obj st.nx, st2.nx⟩, rfl, ?_, ?_, ⟨?_, fun j hj hp => ?_⟩, hQ⟩
    · have hd := g5.dropOb st.nx
      have e : rmAt (st2.setOb st.nx (.lp (4 * N + 2) ps as bd env2)).obj st.nx = rmAt st2.obj st.nx := by
        simp only [St.setOb]
        have : ∀ (l : List (Nat × Ob)) (k : Nat) (o : Ob), rmAt (putAt l k o) k = rmAt l k := by
          intro l k o
          induction l with
          | nil => rfl
          | cons p l ih =>
            obtain ⟨j, t⟩ := p
            simp only [putAt, rmAt]
            cases hj : k == j
            · simp only [cond_false, rmAt, hj, ih]
            · simp only [cond_true, rmAt, hj]
        exact this _ _ _
      rw [e] at hd
      exact hd
    · exact hx.trans g6
    · have := k2.n
      show m ≤ κ2.n
      rw [hr.nx] at hm
      omega
    · have hj' : j < κ.n := Nat.lt_of_lt_of_le hj hm
      show κ2.tk j = κ.tk j
      have e1 : κ1.tk j = κ.tk j := updF_ne _ _ (by omega)
      rw [k2.tk j (by rw [← hr.nx]; omega) (by rw [e1]; exact hp), e1]
end
attribute [push_cast] keepT keepE TV.kp1 setPs rmAt
end Go.PL
