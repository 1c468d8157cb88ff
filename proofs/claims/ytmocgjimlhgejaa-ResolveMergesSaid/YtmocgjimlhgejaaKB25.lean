/- A FUNCTION THAT DEFERS A CLOSURE WHICH RECOVERS. -/
import Derived.Test.YtmocgjimlhgejaaKB24
namespace Go.PL
open Go.RowKit (Below)
set_option linter.unusedSimpArgs false
set_option linter.unusedVariables false
section
variable {P : Program} {κ κ' : Kx} {N m : Nat}

def markD (D : Nat) : Deferred := { target := .collected D, args := #[] }
/-- A frame on its way out shuts its marks. -/
theorem marks_steps : ∀ (Ds : List Nat) (w : World) (fr : Frame) (cs : List Frame), fr.mode ≠ .run → fr.defers = Ds.map markD → Fence.wide.room (cs.length + 1 + 0) → Ds.Nodup → (∀ D ∈ Ds, w.heap[D]? = some (.deferred (some []))) →
    StepsIn (Machine.fenced P Fence.wide) P (lone fr cs w) (lone { fr with defers := [] } cs (shutD w Ds))
  | [], w, fr, cs, _, hd, _, _, _ => by
    have e : { fr with defers := [] } = fr := by rw [show ([] : List Deferred) = fr.defers from hd.symm]
    rw [e]
    exact StepsIn.refl _
  | D :: l, w, fr, cs, hm, hd, hr, hnd, hD => by
    obtain ⟨h1, h2⟩ := List.nodup_cons.1 hnd
    have s1 := step_collected (P := P) (cs := cs) hm hd rfl (run_takeDeferred (hD D (List.mem_cons_self ..)))
    have i1 : (lone fr cs w).fenced P Fence.wide := fenced_out (n := 0) trivial hr hm hd (fun g hg => trivial)
    have ih := marks_steps l (w.putObj D (.deferred none)) { fr with defers := [] ++ l.map markD } cs hm rfl hr h2 (fun D' hD' => by
      rw [World.putObj_heap_other (fun e => by subst e; exact h1 hD')]
      exact hD D' (List.mem_cons_of_mem _ hD'))
    exact .head i1 s1 ih

/-- What the body of a deferred function must achieve, marks and all. -/
def bodyPostD (P : Program) (fn : Func) (c₀ : Frame) (cs : List Frame) (R : Ending → FrameMode → World → Prop) : Exit → Act → List Frame → World → Prop
  | .normal, a, cs', w | .ret, a, cs', w => ∃ Ds : List Nat, a.defers = Ds.map markD ∧ Ds.Nodup ∧ (∀ D ∈ Ds, w.heap[D]? = some (.deferred (some []))) ∧ ∃ u', cs' = { c₀ with mode := u' } :: cs ∧ ∃ v, (results fn a.tmps).run P (shutD w Ds) = .ok v (shutD w Ds) ∧ R (.returned v) u' (shutD w Ds)
  | _, _, _, _ => False

theorem callsD_marks {f : FuncId} {fn : Func} {c : Code} {args : Array Value} {u : FrameMode} {w : World} {R : Ending → FrameMode → World → Prop}
    (hf : P.funcs[f]? = some fn) (hb : fn.body = some c)
    (h : ∀ (c₀ : Frame) (cs : List Frame), c₀.mode = u →
      c.wpSIn Fence.wide 0 P (bodyPostD P fn c₀ cs R) { tmps := args ++ Array.replicate (fn.ntmps - args.size) undef, defers := [] } (c₀ :: cs) w) :
    CallsDIn Fence.wide 0 P f args u w R := by
  refine ⟨trivial, fun c₀ cs hu hroom => ?_⟩
  let b : Frame := { (default : Frame) with fn := f, kind := .deferred, roundOf := none }
  have henter : Frame.enter P f args .deferred =
      b.atR { tmps := args ++ Array.replicate (fn.ntmps - args.size) undef, defers := [] } [.code c] := by
    simp [Frame.enter, Frame.atR, hf, hb, b]
  obtain ⟨e, a', cs', w', hl, hq, harr⟩ := h c₀ cs hu b [] rfl rfl trivial hroom
  rw [← henter] at harr
  cases e with
  | normal =>
    obtain ⟨Ds, hd, hnd, hD, u', rfl, v, hr, hR⟩ := hq
    have hs := StepsIn.trans harr (.one (fenced_calm (fr := b.atR a' []) (n := 0) trivial hroom rfl) (stepR_end rfl))
    exact ⟨.returned v, u', shutD w' Ds, { ({ b.atR a' [] with mode := .returning } : Frame) with defers := [] }, hR, StepsIn.trans hs (marks_steps Ds w' _ _ (by simp) hd hroom hnd hD), rfl, rfl, rfl, rfl, fn, hf, hr⟩
  | ret =>
    obtain ⟨Ds, hd, hnd, hD, u', rfl, v, hr, hR⟩ := hq
    obtain ⟨todo, hs⟩ := harr.1 rfl
    exact ⟨.returned v, u', shutD w' Ds, { ({ b.atR a' todo with mode := .returning } : Frame) with defers := [] }, hR, StepsIn.trans hs (marks_steps Ds w' _ _ (by simp) hd hroom hnd hD), rfl, rfl, rfl, rfl, fn, hf, hr⟩
  | panic chain => exact hq.elim
  | exit id => exact hq.elim
  | goto l => exact hq.elim
  | outgrown => exact hq.elim

/-- What a deferred closure finds: nil where the frame returns; the value where it panics. -/
def recU (u : FrameMode) (rv : Value) : Prop := (u = .returning ∧ rv = .nilIface) ∨ u = .panicking [{ v := rv, recovered := false }]
/-- The region that recovers. -/
theorem recover_region {id : Nat} {ro ao : Oper} {s1 s2 : Nat} (hro : ro.op = .call ⟨.builtin .recover, ⟨[]⟩, ⟨[]⟩⟩) (hrd : ro.dst = some s1) (hrg : ro.guard = none) (hao : ao.op = .assign (.tmp s1)) (had : ao.dst = some s2) (hag : ao.guard = none)
    {c2 : Code} {Q : Exit → Act → List Frame → World → Prop} {a : Act} {c₀ : Frame} {cs : List Frame} {w : World} {rv : Value} {u : FrameMode} (hs1 : s1 < a.tmps.size) (hu : recU u rv) (hc : c₀.mode = u)
    (h : ∀ u', settle u' = .returning → c2.wpSIn Fence.wide 0 P Q ((a.put (some s1) rv).put (some s2) rv) ({ c₀ with mode := u' } :: cs) w) :
    (Code.seq (.region id [ro, ao].toArray false) c2).wpSIn Fence.wide 0 P Q a (c₀ :: cs) w := by
  refine wpSIn_seq (wpSIn_region ?_)
  have e1 : ∀ a : Act, (execOp a.eval ro).run P w = .ok .recover w := fun a => by simp [execOp, hro, resolve, invoke, builtin]
  have hev : ∀ v, (a.put (some s1) v).eval (.tmp s1) = v := fun v => by
    simp only [Act.put, Act.eval]
    simp [Array.getD, hs1]
  have e2 : ∀ v, (execOp (a.put (some s1) v).eval ao).run P w = .ok (.value v) w := fun v => by simp [execOp, hao, hev]
  have hr : List.range [ro, ao].toArray.size = [0, 1] := rfl
  rw [hr]
  have w1 : ∀ y, Region.wanted ro y = true := fun y => by simp [Region.wanted, hrg]
  have w2 : ∀ y, Region.wanted ao y = true := fun y => by simp [Region.wanted, hag]
  have i0 : [ro, ao].toArray[0]? = some ro := rfl
  have i1 : [ro, ao].toArray[1]? = some ao := rfl
  simp only [wpOpsSIn, i0, i1, w1, w2, if_true, e1, hrd, had]
  refine ⟨fun _ _ => trivial, ?_⟩
  rcases hu with ⟨rfl, rfl⟩ | rfl
  · have hrec : recoverD (c₀ :: cs) = none := by simp [recoverD, hc]
    simp only [hrec, e2]
    refine ⟨fun _ _ => trivial, ?_⟩
    have := h .returning rfl
    have e : ({ c₀ with mode := .returning } : Frame) = c₀ := by rw [← hc]
    rw [e] at this
    exact this
  · have hrec : recoverD (c₀ :: cs) = some (rv, { c₀ with mode := .panicking [{ v := rv, recovered := true }] } :: cs) := by simp [recoverD, hc]
    simp only [hrec, e2]
    refine ⟨fun _ _ => trivial, ?_⟩
    exact h _ rfl

/-- Results that lie in variables. -/
def finOne (τ : Nat → TD) (nx : Nat) (st4 : St) (ty : TypeId) (t : TV) : TV → Prop
  | .bptr k off => k < nx ∧ (τ ty).known = true ∧ finL st4 t (loadQ st4 (τ ty) (.bptr k off))
  | _ => False
def finRes (τ : Nat → TD) (st3 st4 : St) : List (Nat × TypeId) → List TV → Prop
  | [], [] => True
  | (r, ty) :: l, t :: ts => finOne τ st3.nx st4 ty t (st3.get r) ∧ finRes τ st3 st4 l ts
  | _, _ => False
/-- Plain pointers to variables. -/
def allB (n : Nat) : List TV → Bool
  | [] => true
  | .bptr k _ :: l => decide (k < n) && allB n l
  | _ :: _ => false
theorem allB_get {n : Nat} : ∀ (l : List TV), allB n l = true → ∀ (j : Nat) (t : TV), l[j]? = some t → ∃ k off, t = .bptr k off ∧ k < n
  | [], _, j, t, h => by simp at h
  | x :: l, h, j, t, hj => by
    cases x with
    | bptr k off =>
      simp only [allB, Bool.and_eq_true, decide_eq_true_eq] at h
      cases j with
      | zero => simp at hj; exact ⟨k, off, hj.symm, h.1⟩
      | succ j => exact allB_get l h.2 j t (by simpa using hj)
    | _ => simp [allB] at h

theorem finRes_ok {τ : Nat → TD} (hτ : TOK P τ) {st3 st4 : St} {tmps : Array Value} (hO : RelO κ st4.obj) (hE : ∀ r k off, st3.get r = .bptr k off → k < st3.nx → TVR κ (.bptr k off) (tmps.getD r undef)) : ∀ (rs : List (Nat × TypeId)) (ts : List TV), finRes τ st3 st4 rs ts →
    ∃ us : List Value, ((rs.map fun p => ResultVar.cell p.1 p.2).mapM (resF tmps)).run P κ.w = .ok us κ.w ∧ us.length = ts.length ∧ ∀ (j : Nat) (t : TV) (u : Value), ts[j]? = some t → us[j]? = some u → TVR κ t u
  | [], [], _ => ⟨[], by simp, rfl, by simp⟩
  | (r, ty) :: l, t :: ts, h => by
    obtain ⟨h1, h2⟩ := h
    obtain ⟨us, hus, hl, hg⟩ := finRes_ok hτ hO hE l ts h2
    generalize hx : st3.get r = x at h1
    cases x with
    | bptr k off =>
      obtain ⟨hk, hkn, hF⟩ := h1
      have hv := hE r k off hx hk
      cases hq : loadQ st4 (τ ty) (.bptr k off) with
      | none => rw [hq] at hF; exact hF.elim
      | some p =>
        rw [hq] at hF
        obtain ⟨hC, hle⟩ := hF
        obtain ⟨u, hu, htu⟩ := load_ok hO (hτ ty) hkn hv (C := p.1) (r := p.2) hq hC
        have h1 := hu κ.w (Sees.refl _ _)
        have hm : (resF tmps (.cell r ty)).run P κ.w = .ok u κ.w := by
          simp only [resF]
          generalize tmps.getD r undef = v at hv h1
          cases hv with
          | bptr _ _ b hk' hb =>
            simp only [Instr.loadAt, Instr.sureAddr] at h1
            simpa [asAddr] using h1
        refine ⟨u :: us, ?_, by simp [hl], fun j t' u' ht hu' => ?_⟩
        · rw [List.map_cons, List.mapM_cons]
          simp only [Sem.run_bind, hm, Result.andThen_ok, hus, Sem.run_pure]
        · cases j with
          | zero => simp at ht hu'; subst ht; subst hu'; exact htu.le hle
          | succ j => exact hg j t' u' (by simpa using ht) (by simpa using hu')
    | _ => exact h1.elim
  | [], _ :: _, h => h.elim
  | _ :: _, [], h => h.elim
/-- A FUNCTION THAT DEFERS A CLOSURE: its results lie in variables; the closure recovers. -/
theorem PC.bodyD {τ : Nat → TD} (hτ : TOK P τ) {f g : FuncId} {args : List TV} {obs : List (Nat × Ob)} {n n' : Nat} {R : TV → List (Nat × Ob) → Prop} {fn gn : Func} {ca cb cc c2 : Code} {id id2 : Nat} {mf df ro ao : Oper} {xs : List Operand} {sl s1 s2 : Nat} (rs : List (Nat × TypeId))
    (hf : P.funcs[f]? = some fn) (hb : fn.body = some (.seq ca (.seq cb (.seq (.region id [mf, df].toArray false) cc)))) (hname : (fn.name == "runtime.NumGoroutine") = false) (hlen : args.length ≤ fn.ntmps)
    (hmf : mf.op = .makeFunc (.func g) ⟨[]⟩ ⟨xs⟩) (hmd : mf.dst = some sl) (hmg : mf.guard = none) (hsl : sl < fn.ntmps)
    (hdf : df.op = .defer ⟨.value (.tmp sl), ⟨[]⟩, ⟨[]⟩⟩) (hdd : df.dst = none) (hdg : df.guard = none)
    (hres : fn.results = (rs.map fun p => ResultVar.cell p.1 p.2).toArray) (hrs : rs.length ≠ 1)
    (hg : P.funcs[g]? = some gn) (hgb : gn.body = some (.seq (.region id2 [ro, ao].toArray false) c2)) (hgname : (gn.name == "runtime.NumGoroutine") = false) (hgres : gn.results = ⟨[]⟩) (hgl : xs.length ≤ gn.ntmps)
    (hro : ro.op = .call ⟨.builtin .recover, ⟨[]⟩, ⟨[]⟩⟩) (hrd : ro.dst = some s1) (hrg : ro.guard = none) (hao : ao.op = .assign (.tmp s1)) (had : ao.dst = some s2) (hag : ao.guard = none) (hs1 : s1 < gn.ntmps) (hs2 : s2 < gn.ntmps)
    (h : PWp P fn.ntmps n ca (fun e st1 => e = .normal ∧ PWp P fn.ntmps n cb (fun e st2 => e = .normal ∧ args? st2 xs ∧ allB st2.nx (argsOf st2 xs) = true ∧
      PWp P fn.ntmps st2.nx cc (fun e st3 => ∃ rv, (((e = .normal ∨ e = .ret) ∧ rv = .nilIface) ∨ e = .panic [{ v := rv, recovered := false }]) ∧
        PWp P gn.ntmps st3.nx c2 (fun e st4 => (e = .normal ∨ e = .ret) ∧ n ≤ n' ∧ ∃ ts obs', finRes τ st3 st4 rs ts ∧ (TV.tup ts).okN n' = true ∧ obsle st4 n' obs' ∧ keysNd obs' ∧ R (.tup ts) obs')
          ⟨(s2, .iv (.lit rv)) :: (s1, .iv (.lit rv)) :: enumA 0 (argsOf st2 xs), st3.obj, st3.nx⟩) (st2.set sl .any)) st1) ⟨enumA 0 args, obs, n⟩) : PC P f args obs n n' R := by
  refine ⟨⟨fn, _, hf, hb, hname⟩, fun κ vs hO hn hl hargs => ?_⟩
  have hrel := Rel.enter (fn := fn) hO hn hlen hl hargs
  refine callsIn_wide.1 (callsIn_of_wp_marks (n := 0) hf hb trivial ?_)
  refine wpIn_seq (wpIn_mono (F := Fence.wide) (h (bdK κ (κ.w.heap.size, [])) _ hrel (by show n ≤ κ.n; rw [hn]; exact Nat.le_refl _)) ?_)
  rintro e a1 w1 ⟨κ1, st1, rfl, h1, x1, k1, rfl, hcb⟩
  refine wpIn_seq (wpIn_mono (F := Fence.wide) (hcb κ1 a1 h1 k1.n) ?_)
  rintro e a2 w2 ⟨κ2, st2, rfl, h2, x2, k2, rfl, hq, hB, hcc⟩
  have x12 := x1.trans x2
  obtain ⟨hb2, Ds2, hds2, hnd2, hDD2⟩ := h2.nodef
  rw [show κ2.F.bd.2 = [] by rw [x12.F.2]; rfl, List.append_nil] at hds2
  have hbase2 : κ2.F.bd.1 = κ.w.heap.size := by rw [x12.F.2]; rfl
  -- the closure is made, and deferred
  have hcaps := args_ok h2 xs hq
  have hB' := allB_get _ hB
  let caps : List Value := xs.map a2.eval
  let fv : Value := .func (.func g) #[] caps.toArray
  let d : Deferred := { target := .fn (.func g) caps.toArray, args := #[] }
  have r1 : (execOp a2.eval mf).run P κ2.w = .ok (.value fv) κ2.w := by
    simp only [execOp, hmf]
    simp [Instr.makeFunc, fv, caps]
  have hev : (a2.put (some sl) fv).eval (.tmp sl) = fv := by
    simp only [Act.put, Act.eval]
    simp [Array.getD, h2.size, hsl]
  have r2 : (execOp (a2.put (some sl) fv).eval df).run P κ2.w = .ok (.defer d) κ2.w := by
    simp only [execOp, hdf, resolve, hev]
    simp [fv, Deferred.ofValue, d]
  refine wpIn_seq (wpIn_region_lit ?_)
  unfold wpListIn
  rw [if_pos (by simp [Region.wanted, hmg])]
  refine Ex.wpIn (r := none) (.inl r1) (fun c hc => by rw [hmf] at hc; cases hc) _ _ ?_
  rw [hmd]
  unfold wpListIn
  rw [if_pos (by simp [Region.wanted, hdg])]
  refine ⟨fun _ _ => trivial, ?_⟩
  show df.uponIn Fence.wide 0 P _ _ _ ((execOp (a2.put (some sl) fv).eval df).run P κ2.w)
  rw [r2, Oper.uponIn_defer, hdd]
  unfold wpListIn
  show cc.wpIn Fence.wide 0 P _ _ κ2.w
  -- the rest
  let bd3 : Nat × List Deferred := (κ2.w.heap.size, d :: a2.defers)
  have hrel3 : Rel (bdK κ2 bd3) fn.ntmps (st2.set sl .any) { (a2.put (some sl) fv) with defers := d :: a2.defers } := by
    have hp := (h2.putQ (d := some sl) (t := .any) (v := fv) (.any _) (fun i hi => by injection hi with hi; omega))
    exact ⟨hp.o.bdK _, fun i => (hp.env i).bdK _, hp.size, ⟨Nat.le_refl _, [], rfl, List.nodup_nil, by simp⟩, hp.nx⟩
  have hnx2 : κ2.n = st2.nx := h2.nx
  refine wpIn_mono (F := Fence.wide) (hcc (bdK κ2 bd3) _ hrel3 (Nat.le_of_eq hnx2.symm)) ?_
  rintro e a3 w3 ⟨κ3, st3, rfl, h3, x3, k3, rv, hend, hc2⟩
  obtain ⟨hb3, Ds3, hds3, hnd3, hDD3⟩ := h3.nodef
  have hbd3 : κ3.F.bd = bd3 := by rw [x3.F.2]; rfl
  rw [hbd3] at hds3 hDD3
  have hsh3 := h3.o.shut (Ds := Ds3) (fun D hD => ⟨(hDD3 D hD).1, (hDD3 D hD).2.2⟩)
  obtain ⟨z1, z2, z3, z4, z5⟩ := shutD_spec Ds3 κ3.w
  let κS : Kx := { κ3 with w := shutD κ3.w Ds3 }
  have hTS : ∀ t v, TVR κ3 t v → TVR κS t v := fun t v ht => TVR.monoP (κ := κ3) (κ' := κS) (h := ht) (fun a ha => ⟨ha, hsh3.2 a ha⟩) (Nat.le_refl _) (fun _ _ => rfl)
  -- what is known of the world at the door
  have x12k : Ext κ (bdK κ2 κ.F.bd) := x12.bdK κ.F.bd
  have x3k : Ext (bdK κ2 κ.F.bd) (bdK κ3 κ.F.bd) := x3.bdK κ.F.bd
  have hfr2 : ∀ b, κ2.F b → b < κ2.w.heap.size := h2.o.fr
  have xSk : Ext (bdK κ2 κ.F.bd) (bdK κS κ.F.bd) := by
    refine ⟨z1.trans x3k.os, z2.trans x3k.tape, z3.trans x3k.output, by show κ2.w.heap.size ≤ (shutD κ3.w Ds3).heap.size; rw [z4]; exact x3.size, ⟨x3k.F.1, rfl⟩, fun b hb => ?_, fun a ha => ⟨(x3k.prot a ha).1, (hsh3.2 a (x3k.prot a ha).1).trans (x3k.prot a ha).2⟩, x3k.np⟩
    refine (z5 b (fun hm => ?_)).trans (x3k.fr b hb)
    have q1 := hfr2 b hb
    have q2 : κ2.w.heap.size ≤ b := (hDD3 b hm).2.1
    omega
  have hcapS : ∀ (j : Nat) (t : TV) (v : Value), (argsOf st2 xs)[j]? = some t → caps[j]? = some v → TVR κS t v := by
    intro j t v ht hv
    have h0 := hcaps j t v ht hv
    obtain ⟨k, off, rfl, hk⟩ := hB' j t ht
    cases h0 with
    | bptr _ _ b hkn htk =>
      refine .bptr k off b ?_ ?_
      · show k < κ3.n
        exact Nat.lt_of_lt_of_le hk k3.n
      · show κ3.tk k = _
        rw [k3.tk k hk (by show isPtr (κ2.tk k) = true; rw [htk]; rfl)]
        exact htk
  -- the closure
  have hclo : ∀ (u : FrameMode), recU u rv → LeavesInM Fence.wide 0 P fn a3.tmps (fun e w' => ∃ κ' v t obs', e = Ending.returned v ∧ κ'.w = w' ∧ RelO κ' obs' ∧ (∀ k o, look? obs' k = some o → obOk n' o) ∧ κ'.n = n' ∧ Ext κ κ' ∧ Keep n κ κ' ∧ t.okN n' = true ∧ TVR κ' t v ∧ R t obs') a3.defers u κ3.w := by
    intro u hu
    have hur : u ≠ .run := by rcases hu with ⟨rfl, _⟩ | rfl <;> simp
    have hds3' : a3.defers = Ds3.map (fun D => { target := .collected D, args := #[] }) ++ (d :: a2.defers) := hds3
    rw [hds3']
    have hlm : ∀ (Ds : List Nat) (w : World) (tl : List Deferred), Ds.Nodup → (∀ D ∈ Ds, w.heap[D]? = some (.deferred (some []))) → ∀ (R' : Ending → World → Prop), LeavesInM Fence.wide 0 P fn a3.tmps R' tl u (shutD w Ds) → LeavesInM Fence.wide 0 P fn a3.tmps R' (Ds.map (fun D => { target := .collected D, args := #[] }) ++ tl) u w := by
      intro Ds
      induction Ds with
      | nil => exact fun w tl _ _ R' h => h
      | cons D l ih =>
        intro w tl hnd hD R' h
        obtain ⟨q1, q2⟩ := List.nodup_cons.1 hnd
        refine ⟨hur, .inl ⟨D, _, rfl, run_takeDeferred (hD D (List.mem_cons_self ..)), ih _ tl q2 (fun D' hD' => ?_) R' h⟩⟩
        rw [World.putObj_heap_other (fun e => by subst e; exact q1 hD')]
        exact hD D' (List.mem_cons_of_mem _ hD')
    refine hlm Ds3 κ3.w _ hnd3 (fun D hD => (hDD3 D hD).2.2) _ ?_
    have hn2 : ¬ gn.name = "runtime.NumGoroutine" := by simpa using hgname
    refine ⟨hur, .inr ⟨fun e => (by cases e), .func g, caps.toArray, g, caps.toArray, rfl, by simp [d, invoke, callFunc, hg, hgb, hn2], fun _ _ => trivial, ?_⟩⟩
    show CallsDIn Fence.wide 0 P g caps.toArray u (shutD κ3.w Ds3) _
    refine callsD_marks hg hgb (fun c₀ cs hc => ?_)
    have hcl : caps.length = (argsOf st2 xs).length := by simp [caps, argsOf_length]
    refine recover_region hro hrd hrg hao had hag (rv := rv) (u := u) (by simp; omega) hu hc (fun u' hset => ?_)
    refine wpSIn_of_wpIn rfl ?_
    -- the closure's own frame
    let κC : Kx := bdK κS (κS.w.heap.size, [])
    have hOS : RelO κS st3.obj := hsh3.1
    have hrelC : Rel κC gn.ntmps ⟨(s2, .iv (.lit rv)) :: (s1, .iv (.lit rv)) :: enumA 0 (argsOf st2 xs), st3.obj, st3.nx⟩ ((Act.put { tmps := caps.toArray ++ Array.replicate (gn.ntmps - caps.toArray.size) undef, defers := [] } (some s1) rv).put (some s2) rv) := by
      have q0 := Rel.enter (κ := κS) (fn := gn) (args := argsOf st2 xs) (vs := caps) (n := st3.nx) hOS h3.nx (by rw [argsOf_length]; exact hgl) hcl hcapS
      have q1 := q0.putQ (d := some s1) (t := .iv (.lit rv)) (v := rv) (.iv _ _ (.lit _)) (fun i hi => by injection hi with hi; omega)
      exact q1.putQ (d := some s2) (t := .iv (.lit rv)) (v := rv) (.iv _ _ (.lit _)) (fun i hi => by injection hi with hi; omega)
    have hnS : κC.n = st3.nx := h3.nx
    refine wpIn_mono (F := Fence.wide) (hc2 κC _ hrelC (Nat.le_of_eq hnS.symm)) ?_
    rintro e a4 w4 ⟨κ4, st4, rfl, h4, x4, k4, hend4, hnn, ts, obs', hfin, hok, hle, hknd, hR⟩
    obtain ⟨hb4, Ds4, hds4, hnd4, hDD4⟩ := h4.nodef
    rw [show κ4.F.bd.2 = [] by rw [x4.F.2]; rfl, List.append_nil] at hds4
    have hb4' : κ4.F.bd.1 = κS.w.heap.size := by rw [x4.F.2]; rfl
    have hsh4 := h4.o.shut (Ds := Ds4) (fun D hD => ⟨(hDD4 D hD).1, (hDD4 D hD).2.2⟩)
    obtain ⟨y1, y2, y3, y4, y5⟩ := shutD_spec Ds4 κ4.w
    let κT : Kx := { κ4 with w := shutD κ4.w Ds4 }
    have x4k : Ext (bdK κS κ.F.bd) (bdK κ4 κ.F.bd) := x4.bdK κ.F.bd
    have hSsz : κ2.w.heap.size ≤ κS.w.heap.size := xSk.size
    have xTk : Ext (bdK κ2 κ.F.bd) (bdK κT κ.F.bd) := by
      have x24 := xSk.trans x4k
      refine ⟨y1.trans x24.os, y2.trans x24.tape, y3.trans x24.output, by show κ2.w.heap.size ≤ (shutD κ4.w Ds4).heap.size; rw [y4]; exact x24.size, ⟨x24.F.1, rfl⟩, fun b hb => ?_, fun a ha => ⟨(x24.prot a ha).1, (hsh4.2 a (x24.prot a ha).1).trans (x24.prot a ha).2⟩, x24.np⟩
      refine (y5 b (fun hm => ?_)).trans (x24.fr b hb)
      have q1 := hfr2 b hb
      have q2 := (hDD4 b hm).2.1
      rw [hb4'] at q2
      omega
    have hkeep : ∀ k, k < n → isPtr (κ.tk k) = true → κT.tk k = κ.tk k := by
      intro k hk hp
      have e1 : κ1.tk k = κ.tk k := k1.tk k hk hp
      have e2 : κ2.tk k = κ1.tk k := k2.tk k hk (by rw [e1]; exact hp)
      have hk2 : k < st2.nx := by rw [← hnx2]; exact Nat.lt_of_lt_of_le hk k2.n
      have e3 : κ3.tk k = κ2.tk k := k3.tk k hk2 (by show isPtr (κ2.tk k) = true; rw [e2, e1]; exact hp)
      have hk3 : k < st3.nx := Nat.lt_of_lt_of_le hk2 (by have := k3.n; rw [h3.nx] at this; exact this)
      have e4 : κ4.tk k = κ3.tk k := k4.tk k hk3 (by show isPtr (κ3.tk k) = true; rw [e3, e2, e1]; exact hp)
      show κ4.tk k = κ.tk k
      rw [e4, e3, e2, e1]
    -- the frame's own marks behind the closure
    obtain ⟨κ5, g1, g2, g3, g4, g5, g6, g7⟩ := cut_end (κ := κ) (κ' := bdK κT κ.F.bd) (st' := st4) (hsh4.1.bdK _) (x12k.trans xTk) hkeep hnn hle hknd (Ds := Ds2) (fun D hD => ⟨xTk.F.1 D (hDD2 D hD).1, by rw [← hbase2]; exact (hDD2 D hD).2.1, (xTk.fr D (hDD2 D hD).1).trans (hDD2 D hD).2.2⟩) hO.fr
    have hfinal : LeavesInM Fence.wide 0 P fn a3.tmps (fun e w' => ∃ κ' v t obs', e = Ending.returned v ∧ κ'.w = w' ∧ RelO κ' obs' ∧ (∀ k o, look? obs' k = some o → obOk n' o) ∧ κ'.n = n' ∧ Ext κ κ' ∧ Keep n κ κ' ∧ t.okN n' = true ∧ TVR κ' t v ∧ R t obs') a2.defers .returning (shutD κ4.w Ds4) := by
      rw [hds2]
      refine leaves_marks Ds2 _ hnd2 (fun D hD => (xTk.fr D (hDD2 D hD).1).trans (hDD2 D hD).2.2) ?_
      -- the results are read
      have hsh5 := hsh4.1.shut (Ds := Ds2) (fun D hD => ⟨xTk.F.1 D (hDD2 D hD).1, (xTk.fr D (hDD2 D hD).1).trans (hDD2 D hD).2.2⟩)
      let κV : Kx := { κT with w := shutD κT.w Ds2 }
      obtain ⟨us, hus, hul, hug⟩ := finRes_ok (κ := κV) hτ (st3 := st3) (st4 := st4) (tmps := a3.tmps) hsh5.1 (fun r k off hr hk => by
        have hv := h3.env r
        rw [hr] at hv
        generalize a3.tmps.getD r undef = v at hv
        cases hv with
        | bptr _ _ b hkn htk =>
          refine .bptr k off b ?_ ?_
          · show k < κ4.n
            exact Nat.lt_of_lt_of_le hk k4.n
          · show κ4.tk k = _
            rw [k4.tk k hk (by show isPtr (κ3.tk k) = true; rw [htk]; rfl)]
            exact htk) rs ts hfin
      have hval : (results fn a3.tmps).run P (shutD κT.w Ds2) = .ok (.tuple us.toArray) (shutD κT.w Ds2) := by
        have e : results fn a3.tmps = (do let vs ← fn.results.mapM (resF a3.tmps); pure (if h : vs.size = 1 then vs[0] else .tuple vs)) := rfl
        have hm : (fn.results.mapM (resF a3.tmps)).run P (shutD κT.w Ds2) = .ok us.toArray (shutD κT.w Ds2) := by
          rw [hres, List.mapM_toArray, Sem.run_map, hus]
          rfl
        have hlr : ∀ (rs : List (Nat × TypeId)) (ts : List TV), finRes τ st3 st4 rs ts → ts.length = rs.length := by
          intro rs
          induction rs with
          | nil => intro ts h; cases ts with
            | nil => rfl
            | cons _ _ => exact h.elim
          | cons p l ih => intro ts h; cases ts with
            | nil => exact h.elim
            | cons t ts => simp [ih ts h.2]
        have hne : ¬ us.toArray.size = 1 := by
          have := hlr rs ts hfin
          simp
          omega
        rw [e, Sem.run_bind, hm]
        simp only [Result.andThen_ok, Sem.run_pure, dif_neg hne]
      refine ⟨_, hval, κ5, _, .tup ts, obs', rfl, g1, g2, g3, g4, g5, g6, hok, ?_, hR⟩
      have ht : TVR κT (.tup ts) (.tuple us.toArray) := .tup ts us hul (fun j t u hj hu => by
        have hv := hug j t u hj hu
        exact TVR.monoP (κ := κV) (κ' := κT) (h := hv) (fun a ha => ⟨ha, (hsh5.2 a ha).symm⟩) (Nat.le_refl _) (fun _ _ => rfl))
      exact g7 _ _ hok (ht.bdK _)
    have hpost : ∃ Ds : List Nat, a4.defers = Ds.map markD ∧ Ds.Nodup ∧ (∀ D ∈ Ds, κ4.w.heap[D]? = some (.deferred (some []))) ∧ ∃ u1, ({ c₀ with mode := u' } :: cs : List Frame) = { c₀ with mode := u1 } :: cs ∧ ∃ v, (results gn a4.tmps).run P (shutD κ4.w Ds) = .ok v (shutD κ4.w Ds) ∧
        LeavesInM Fence.wide 0 P fn a3.tmps (fun e w' => ∃ κ' v t obs', e = Ending.returned v ∧ κ'.w = w' ∧ RelO κ' obs' ∧ (∀ k o, look? obs' k = some o → obOk n' o) ∧ κ'.n = n' ∧ Ext κ κ' ∧ Keep n κ κ' ∧ t.okN n' = true ∧ TVR κ' t v ∧ R t obs') a2.defers (settle u1) (shutD κ4.w Ds) := by
      refine ⟨Ds4, hds4, hnd4, fun D hD => (hDD4 D hD).2.2, u', rfl, _, results_ok (rs := []) hgres a4.tmps _, ?_⟩
      rw [hset]
      exact hfinal
    rcases hend4 with rfl | rfl <;> exact hpost
  rcases hend with ⟨rfl | rfl, rfl⟩ | rfl
  · exact hclo .returning (.inl ⟨rfl, rfl⟩)
  · exact hclo .returning (.inl ⟨rfl, rfl⟩)
  · exact hclo (.panicking _) (.inr rfl)
theorem TVR.accNil {κ : Kx} (k sz : Nat) (hk : k < κ.n) (h : κ.tk k = .slice none 0 0) : TVR κ (.acc k sz []) (.slice none 0 0) := by
  have := TVR.acc (κ := κ) k sz [] hk (by rw [h]; exact .sl none sz [] 0 [] (Nat.le_refl _) (by simp) (by simp) (by simp) (by simp) (by simp) (by simp) (fun _ => rfl))
  rw [h] at this
  exact this
/-- A row that is named no more is a row that nothing has been appended to yet, in a variable's nil cell. -/
theorem Rel.reset {st : St} {a : Act} (h : Rel κ N st a) {k : Nat} {e : TypeId} {sz : Nat} (hk : look? st.obj k = some (.row e sz)) :
    Rel { κ with tk := updF κ.tk k (.slice none 0 0) } N (st.dem k) a ∧ Ext κ { κ with tk := updF κ.tk k (.slice none 0 0) } ∧ isPtr (κ.tk k) = false := by
  let κ' : Kx := { κ with tk := updF κ.tk k (.slice none 0 0) }
  have he : Ext κ κ' := ⟨rfl, rfl, rfl, Nat.le_refl _, ⟨fun _ h => h, rfl⟩, fun _ _ => rfl, fun _ h => ⟨h, rfl⟩, fun _ h => .inl h⟩
  have htk' : ∀ i, i ≠ k → κ'.tk i = κ.tk i := fun i hi => updF_ne _ _ hi
  have hnew : κ'.tk k = .slice none 0 0 := updF_same _ _ _
  have hkp : isPtr (κ.tk k) = false := by
    rcases (h.o.obs k _ hk).2 with h0 | ⟨b, n, c, cur, h0, _⟩ <;> (rw [h0]; rfl)
  have hown : ∀ b, ¬ Own (κ'.tk k) b := fun b hb => by rw [hnew] at hb; cases hb
  refine ⟨⟨⟨fun i o hi => ?_, fun i o1 j o2 hi hj hne b hb1 hb2 => ?_, keysNd_demO _ _ h.o.nd, h.o.prot, h.o.fr⟩, fun i => ?_, h.size, dfx he h.nodef, h.nx⟩, he, hkp⟩
  · simp only [St.dem, look?_demO] at hi
    obtain ⟨o', ho', rfl⟩ := Option.map_eq_some_iff.1 hi
    by_cases hik : i = k
    · subst hik
      rw [hk] at ho'
      injection ho' with ho'
      subst ho'
      exact ⟨(h.o.obs i _ hk).1, .inl hnew⟩
    · obtain ⟨h1, h2⟩ := h.o.obs i o' ho'
      exact ⟨h1, h2.dem (S := [k]) he (fun b hb => hb) (Nat.le_refl _) (fun j _ hj => htk' j (by simpa using hj)) (fun j hj => by simp at hj; subst hj; exact hkp) h1 (by simpa using hik) (fun _ _ => rfl) (fun a ha => .inl ha)⟩
  · simp only [St.dem, look?_demO] at hi hj
    obtain ⟨o1', ho1, rfl⟩ := Option.map_eq_some_iff.1 hi
    obtain ⟨o2', ho2, rfl⟩ := Option.map_eq_some_iff.1 hj
    by_cases e1 : i = k
    · subst e1; exact hown b hb1
    · by_cases e2 : j = k
      · subst e2; exact hown b hb2
      · rw [htk' i e1] at hb1
        rw [htk' j e2] at hb2
        exact h.o.dis i o1' j o2' ho1 ho2 hne b hb1 hb2
  · have := (h.env i).dem (S := [k]) he (Nat.le_refl _) (fun j _ hj => htk' j (by simpa using hj)) (fun j hj => by simp at hj; subst hj; exact hkp)
    simp only [St.get, St.dem, look_eq, look?_demE] at this ⊢
    cases hl : look? st.env i with
    | none => rw [hl] at this; simpa [demT] using this
    | some t => rw [hl] at this; simpa using this
theorem Gh.rerow {st : St} (k kb j : Nat) {e : TypeId} {sz : Nat} {ty : TypeId} {cs : List TV} (hk : look? st.obj k = some (.row e sz)) (hb : look? st.obj kb = some (.box ty cs)) (hj : cs[j]? = some .nilsl) :
    Gh m st ((st.dem k).setOb kb (.box ty ((demC [k] cs).set j (.acc k sz [])))) := by
  intro κ N a h hm
  obtain ⟨h1, he, hkp⟩ := h.reset hk
  have hl : look? (st.dem k).obj kb = some (.box ty (demC [k] cs)) := by
    simp only [St.dem, look?_demO, hb]
    rfl
  refine ⟨{ κ with tk := updF κ.tk k (.slice none 0 0) }, rfl, h1.asOb hl ?_, he, ⟨hm, fun i hi hp => updF_ne _ _ (fun e => by subst e; rw [hkp] at hp; cases hp)⟩⟩
  obtain ⟨b, us, e1, e2, e3, e4, e5, e6, e7⟩ := (h1.o.obs kb _ hl).2
  refine ⟨b, us, e1, e2, by rw [List.length_set]; exact e3, fun i c u hc hu => ?_, e5, e6, e7⟩
  rw [List.getElem?_set] at hc
  split at hc
  · rename_i eij
    subst eij
    split at hc
    · simp only [Option.some.injEq] at hc
      subst hc
      have h0 := e4 j .nilsl u (by rw [demC_get, hj]; rfl) hu
      cases h0
      exact TVR.accNil (κ := { κ with tk := updF κ.tk k (.slice none 0 0) }) k sz (h.o.obs k _ hk).1 (updF_same _ _ _)
    · cases hc
  · exact e4 i c u hc hu
end
attribute [push_cast] finOne finRes allB
end Go.PL
