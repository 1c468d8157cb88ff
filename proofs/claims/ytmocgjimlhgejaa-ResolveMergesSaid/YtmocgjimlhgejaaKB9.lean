/- REGIONS, BRANCHES, LOOPS, AND WHAT MAY BE FORGOTTEN. -/
import Derived.Test.YtmocgjimlhgejaaKB8
import Derived.Sort.LoopGhostIn
import Derived.TacticsIn
namespace Go.PL
open Go.RowKit (Below)
set_option linter.unusedSimpArgs false
set_option linter.unusedVariables false
section
variable {P : Program} {κ κ' : Kx} {N m : Nat}

theorem guard_ok {st : St} {a : Act} (h : Rel κ N st a) {all : List Oper} {j d : Nat} {want c : Bool} (hd : gslot all j = some d) (hg : gcond (st.get d) want = some c) {o : Oper} (ho : o.guard = some (j, want)) :
    Region.wanted o (yielded all.toArray a.tmps) = c := by
  unfold gslot at hd
  have key : ∀ v : Value, TVR κ (st.get d) v → (c = true → v = .bool want) ∧ (c = false → v ≠ .bool want) := by
    intro v hv
    unfold gcond at hg
    split at hg
    · rename_i b hb
      simp only [Option.some.injEq] at hg
      rw [hb] at hv
      have e := ivlit hv
      subst e
      subst hg
      cases b <;> cases want <;> simp
    · rename_i c' b hb
      simp only [Option.some.injEq] at hg
      rw [hb] at hv
      cases hv with
      | wh _ _ _ h hu =>
        cases c' with
        | true =>
          have e := ivlit (h rfl)
          subst e
          subst hg
          cases b <;> cases want <;> simp
        | false =>
          have e := hu rfl
          subst e
          subst hg
          simp [undef]
    · rename_i t _ hb
      simp only [Option.some.injEq] at hg
      rw [hb] at hv
      cases hv with
      | wh _ _ _ h hu =>
        have e := hu rfl
        subst e
        subst hg
        simp [undef]
    · cases hg
  have hv := key _ (h.env d)
  cases hall : all[j]? with
  | none => rw [hall] at hd; cases hd
  | some o' =>
    rw [hall] at hd
    simp only at hd
    have hy : yielded all.toArray a.tmps j = match a.tmps[d]? with | some (.bool b) => some b | _ => none := by
      simp only [yielded, List.getElem?_toArray, hall, Option.bind_some, hd]
      cases a.tmps[d]? with
      | none => rfl
      | some q => cases q <;> rfl
    simp only [Region.wanted, ho, hy]
    rw [Array.getD_eq_getD_getElem?] at hv
    cases c with
    | true =>
      have e := hv.1 rfl
      cases hq : a.tmps[d]? with
      | none => rw [hq] at e; simp [Go.undef] at e
      | some q =>
        rw [hq] at e
        simp only [Option.getD_some] at e
        subst e
        simp
    | false =>
      have e := hv.2 rfl
      cases hq : a.tmps[d]? with
      | none => simp
      | some q =>
        rw [hq] at e
        simp only [Option.getD_some] at e
        cases q <;> simp_all

theorem TVR.undef (κ : Kx) (c : Bool) (t : TV) (v : Value) (hc : c = false) (hv : v = Go.undef) : TVR κ (.wh c t) v := .wh _ _ _ (fun h => by rw [hc] at h; cases h) (fun _ => hv)

/-- What a call is to the model. -/
theorem step_call {τ : Nat → TD} {st : St} {o : Oper} {C : Prop} {f : Cal} {args : List TV} (hs : step τ st o = .call C f args) :
    (∃ fo xs ts, o.op = .call ⟨.value fo, ⟨xs⟩, ts⟩ ∧ ((∃ g caps, ox st fo = .clo g caps ∧ C = (op? st fo ∧ args? st xs) ∧ f = .fn g ∧ args = argsOf st xs ++ caps) ∨ ∃ k, ox st fo = .yld k ∧ C = (op? st fo ∧ args? st xs) ∧ f = .yl k ∧ args = argsOf st xs)) ∨
    (∃ t x y k e e' sz xs h, o.op = .slice t x none (some y) none ∧ (τ t).kind = .slice e ∧ ox st x = .mrow k ∧ look? st.obj k = some (.mrow e' sz xs) ∧ natI (ox st y) = some h ∧ f = .ct k (.mrow e' sz (xs.take h.toNat)) ∧
      C = ((τ t).known = true ∧ op? st x ∧ args? st (some y).toList ∧ e' = e ∧ (τ e).known = true ∧ sz = (τ e).size ∧ 0 ≤ h ∧ h ≤ xs.length)) ∨
    (∃ t n c e i j K rs, o.op = .makeSlice t n c ∧ (τ t).kind = .slice e ∧ natI (ox st n) = some i ∧ natI (ox st c) = some j ∧ pinObj e st.obj = some (K, rs) ∧ f = .pn K e rs (List.replicate i.toNat (zElem (τ e))) ∧
      C = ((τ t).known = true ∧ (τ e).known = true ∧ op? st n ∧ op? st c ∧ 0 ≤ i ∧ i = j ∧ i * (τ e).bytes ≤ 140737488355328 ∧ i ≤ 4294967296 ∧ (τ e).size = 1 ∧ (τ e).agg = false)) ∨
    ∃ t u x y e sy ys k sz v v' xs, o.op = .call ⟨.builtin .append, ⟨[x, y]⟩, ⟨[t, u]⟩⟩ ∧ (τ t).kind = .slice e ∧ ox st x = .iv (.lit v) ∧ (ox st y).rows = some (sy, ys) ∧ lrObj e st.obj = some (k, sz, v', xs) ∧ f = .la k e sz (xs ++ ys) ∧
      C = ((τ t).known = true ∧ (τ e).known = true ∧ t = u ∧ op? st x ∧ op? st y ∧ lens? (τ e).size ys ∧ 0 < (τ e).size ∧ v = v' ∧ sz = (τ e).size ∧ (xs.length + ys.length) * (τ e).bytes ≤ 140737488355328 ∧ xs.length + ys.length ≤ 4294967296) := by
  unfold step at hs
  split at hs
  · cases hs
  · split at hs
    · cases hs
    · cases hs
    · split at hs <;> cases hs
    · split at hs <;> cases hs
    · split at hs
      · split at hs <;> cases hs
      · cases hs
    · split at hs
      · split at hs <;> cases hs
      · cases hs
    · split at hs
      · split at hs <;> cases hs
      · cases hs
    · split at hs
      · rename_i t u x y hop _ e hkd
        split at hs
        · rename_i sy ys hyr
          split at hs
          · cases hs
          · unfold appendL at hs
            split at hs
            · rename_i v hxv
              split at hs
              · rename_i k sz v' xs hp
                simp only [Res.call.injEq] at hs
                obtain ⟨rfl, rfl, rfl⟩ := hs
                exact .inr (.inr (.inr ⟨_, _, _, _, _, sy, ys, k, sz, v, v', xs, by assumption, by assumption, hxv, hyr, hp, rfl, rfl⟩))
              · cases hs
            · cases hs
        · unfold appendS at hs
          split at hs
          · split at hs
            · split at hs <;> cases hs
            · cases hs
          · unfold appendN at hs
            split at hs <;> cases hs
      · cases hs
    · rename_i fo xs ts hop
      split at hs
      · rename_i g caps hf
        simp only [Res.call.injEq] at hs
        obtain ⟨rfl, rfl, rfl⟩ := hs
        exact .inl ⟨fo, xs, ts, hop, .inl ⟨g, caps, hf, rfl, rfl, rfl⟩⟩
      · rename_i k hf
        simp only [Res.call.injEq] at hs
        obtain ⟨rfl, rfl, rfl⟩ := hs
        exact .inl ⟨fo, xs, ts, hop, .inr ⟨k, hf, rfl, rfl, rfl⟩⟩
      · cases hs
    · split at hs
      · split at hs <;> cases hs
      · cases hs
    · rename_i t n c hop
      split at hs
      · rename_i e i j hkd hn hc
        unfold makeR at hs
        split at hs
        · cases hs
        · rename_i K rs hp
          simp only [Res.call.injEq] at hs
          obtain ⟨rfl, rfl, rfl⟩ := hs
          exact .inr (.inr (.inl ⟨t, n, c, e, i, j, K, rs, hop, hkd, hn, hc, hp, rfl, rfl⟩))
      · cases hs
    · rename_i t x lo hi hop
      split at hs
      · rename_i e k hkd hx
        split at hs
        · rename_i e' sz xs n hl hh
          simp only [Res.call.injEq] at hs
          obtain ⟨rfl, rfl, rfl⟩ := hs
          obtain ⟨y, rfl, hy⟩ := Option.map_eq_some_iff.1 hh
          exact .inr (.inl ⟨t, x, y, k, e, e', sz, xs, n, hop, hkd, hx, hl, hy, rfl, rfl⟩)
        · cases hs
      · cases hs
    · cases hs
/-- A row that may be written, cut. -/
theorem cut_step {τ : Nat → TD} (hτ : TOK P τ) {N : Nat} {st : St} {a : Act} (h : Rel κ N st a) {o : Oper} {t : TypeId} {x y : Operand} {k : Nat} {e e' : TypeId} {sz : Nat} {xs : List IV} {n : Int} (hop : o.op = .slice t x none (some y) none) (hkd : (τ t).kind = .slice e) (hx : ox st x = .mrow k)
    (hl : look? st.obj k = some (.mrow e' sz xs)) (hy : natI (ox st y) = some n) (hC : (τ t).known = true ∧ op? st x ∧ args? st (some y).toList ∧ e' = e ∧ (τ e).known = true ∧ sz = (τ e).size ∧ 0 ≤ n ∧ n ≤ xs.length) :
    ∃ κ' v, (execOp a.eval o).run P κ.w = .ok (.value v) κ'.w ∧ Rel κ' N (st.moved k (.mrow e' sz (xs.take n.toNat))) a ∧ Ext κ κ' ∧ (∀ m, m ≤ κ.n → Keep m κ κ') ∧ TVR κ' (.mrow st.nx) v := by
  obtain ⟨hk, hpx, hph, rfl, hke, rfl, h0, h1⟩ := hC
  obtain ⟨ii, desc, z, hi, hu, _, _, _, hko, _⟩ := hτ t hk
  rw [hkd] at hko
  simp only [KOK] at hko
  subst hko
  have ey := natI_ok (h.ox hph.1) hy
  have hxv := h.ox hpx
  rw [hx] at hxv
  obtain ⟨κ', v', hrun, hrel, he, hkeep, ht⟩ := cut_ok (P := P) h hu (hτ e') hke hl hxv h0 h1
  exact ⟨κ', v', by simp [execOp, hop, ey, hrun], hrel, he, hkeep, ht⟩
theorem pinObj_spec : ∀ {l : List (Nat × Ob)}, keysNd l → ∀ {e K : Nat} {rs : List (Nat × List IV)}, pinObj e l = some (K, rs) → look? l K = some (.pins e rs)
  | [], _, _, _, _, h => by cases h
  | (j, o) :: l, hnd, e, K, rs, h => by
    cases o with
    | pins e' rs' =>
      simp only [pinObj] at h
      cases hb : e' == e
      · rw [hb] at h
        exact look?_tail hnd.1 (pinObj_spec hnd.2 h)
      · rw [hb] at h
        have ee : e' = e := by simpa using hb
        subst ee
        simp only [cond_true, Option.some.injEq, Prod.mk.injEq] at h
        obtain ⟨rfl, rfl⟩ := h
        simp [look?]
    | _ =>
      simp only [pinObj] at h
      exact look?_tail hnd.1 (pinObj_spec hnd.2 h)
/-- A row made, of a known block. -/
theorem pmake_step {τ : Nat → TD} (hτ : TOK P τ) {N : Nat} {st : St} {a : Act} (h : Rel κ N st a) {o : Oper} {t : TypeId} {n c : Operand} {e : TypeId} {i j : Int} {K : Nat} {rs : List (Nat × List IV)} (hop : o.op = .makeSlice t n c) (hkd : (τ t).kind = .slice e)
    (hn : natI (ox st n) = some i) (hc : natI (ox st c) = some j) (hp : pinObj e st.obj = some (K, rs)) (hC : (τ t).known = true ∧ (τ e).known = true ∧ op? st n ∧ op? st c ∧ 0 ≤ i ∧ i = j ∧ i * (τ e).bytes ≤ 140737488355328 ∧ i ≤ 4294967296 ∧ (τ e).size = 1 ∧ (τ e).agg = false) :
    ∃ κ' b, (∀ ys, (b, ys) ∉ rs) ∧ (execOp a.eval o).run P κ.w = .ok (.value (.slice (some ⟨b, 0, none⟩) (List.replicate i.toNat (zElem (τ e))).length (List.replicate i.toNat (zElem (τ e))).length)) κ'.w ∧
      Rel κ' N ⟨st.env, (st.nx + 1, .pins e (rs ++ [(b, List.replicate i.toNat (zElem (τ e)))])) :: rmAt st.obj K, st.nx + 2⟩ a ∧ Ext κ κ' ∧ ∀ m, m ≤ κ.n → Keep m κ κ' := by
  obtain ⟨hk, hke, hpn, hpc, h0, rfl, hb1, hb2, hsz, hagg⟩ := hC
  obtain ⟨ii, desc, z, hi, hu, _, _, _, hko, _⟩ := hτ t hk
  rw [hkd] at hko
  simp only [KOK] at hko
  subst hko
  have en := natI_ok (h.ox hpn) hn
  have ec := natI_ok (h.ox hpc) hc
  obtain ⟨κ1, v', hrun, hrel, he, hkeep, ht, hv, htk⟩ := make_ok (P := P) h hu (hτ e) hke (by omega) h0 hb1 hb2
  subst hv
  have hKs := pinObj_spec h.o.nd hp
  have hKn : K < κ.n := (h.o.obs K _ hKs).1
  have hnx : κ.n = st.nx := h.nx
  rw [hsz] at hrel
  have hl1 : look? (st.new (.mrow e 1 (List.replicate i.toNat (zElem (τ e))))).obj st.nx = some (.mrow e 1 (List.replicate i.toNat (zElem (τ e)))) := by simp [St.new, look?]
  have hl2 : look? (st.new (.mrow e 1 (List.replicate i.toNat (zElem (τ e))))).obj K = some (.pins e rs) := by
    simp only [St.new]
    refine look?_tail ?_ hKs
    cases hq : look? st.obj st.nx with
    | none => rfl
    | some o => have := (h.o.obs _ o hq).1; omega
  have hone : ∀ x ∈ List.replicate i.toNat (zElem (τ e)), x.cells = [x] := by
    intro x hx
    rw [List.eq_of_mem_replicate hx]
    obtain ⟨i', desc', z', hi', hu', _, _, hag, _, hz', hzc, hz1, hzl, _, hz0⟩ := hτ e hke
    unfold zElem
    rw [hagg, cond_false, hz0 hagg]
    simp only [zIVs, List.getD_cons_zero]
    unfold zIV
    split <;> rfl
  obtain ⟨hfr, κ2, hw2, hn2, hrel2, he2, hk2⟩ := pin_rel hrel hl1 hl2 (b := κ.w.heap.size) (by rw [← hnx, htk, List.length_replicate]) (by omega) hone
  refine ⟨κ2, κ.w.heap.size, hfr, ?_, ?_, he.trans he2, fun m hm => (hkeep m hm).trans (hk2 m (hkeep m hm).n)⟩
  · rw [hw2, List.length_replicate]
    simp [execOp, hop, en, ec, hrun]
  · have hrm : rmAt (st.new (.mrow e 1 (List.replicate i.toNat (zElem (τ e))))).obj st.nx = st.obj := by simp [St.new, rmAt]
    rw [hrm] at hrel2
    exact hrel2
theorem lrObj_spec : ∀ {l : List (Nat × Ob)}, keysNd l → ∀ {e k sz : Nat} {v : Value} {xs : List IV}, lrObj e l = some (k, sz, v, xs) → look? l k = some (.lrow e sz v xs)
  | [], _, _, _, _, _, _, h => by cases h
  | (j, o) :: l, hnd, e, k, sz, v, xs, h => by
    cases o with
    | lrow e' sz' v' xs' =>
      simp only [lrObj] at h
      cases hb : e' == e
      · rw [hb] at h
        exact look?_tail hnd.1 (lrObj_spec hnd.2 h)
      · rw [hb] at h
        have ee : e' = e := by simpa using hb
        subst ee
        simp only [cond_true, Option.some.injEq, Prod.mk.injEq] at h
        obtain ⟨rfl, rfl, rfl, rfl⟩ := h
        simp [look?]
    | _ =>
      simp only [lrObj] at h
      exact look?_tail hnd.1 (lrObj_spec hnd.2 h)
/-- An object seen as another one. -/
theorem Rel.asOb {N : Nat} {st : St} {a : Act} (h : Rel κ N st a) {k : Nat} {o o' : Ob} (hl : look? st.obj k = some o) (ho : ObR κ k o') : Rel κ N (st.setOb k o') a := by
  have hkey : ∀ j q, look? (putAt st.obj k o') j = some q → ∃ q', look? st.obj j = some q' := by
    intro j q hj
    rw [look?_putAt] at hj
    split at hj
    · rename_i e
      subst e
      exact ⟨o, hl⟩
    · exact ⟨q, hj⟩
  refine ⟨⟨fun j q hj => ?_, fun j q j' q' hj hj' hne b hb hb' => ?_, keysNd_putAt _ _ _ h.o.nd, h.o.prot, h.o.fr⟩, h.env, h.size, h.nodef, h.nx⟩
  · have hj0 := hj
    simp only [St.setOb] at hj
    rw [look?_putAt] at hj
    split at hj
    · rename_i e
      subst e
      rw [hl] at hj
      simp only [Option.map_some, Option.some.injEq] at hj
      subst hj
      exact ⟨(h.o.obs _ _ hl).1, ho⟩
    · exact h.o.obs _ _ hj
  · obtain ⟨q1, h1⟩ := hkey j q hj
    obtain ⟨q2, h2⟩ := hkey j' q' hj'
    exact h.o.dis _ _ _ _ h1 h2 hne b hb hb'
theorem Rel.lr2row {N : Nat} {st : St} {a : Act} (h : Rel κ N st a) {k e sz : Nat} {v : Value} {xs : List IV} (hl : look? st.obj k = some (.lrow e sz v xs)) : Rel κ N (st.setOb k (.row e sz)) a ∧ TVR κ (.acc k sz xs) v := by
  obtain ⟨hk, h0, hi, hr⟩ := h.o.obs _ _ hl
  refine ⟨h.asOb hl hr, ?_⟩
  subst h0
  exact .acc k sz xs hk hi
theorem Rel.row2lr {N : Nat} {st : St} {a : Act} (h : Rel κ N st a) {k e sz : Nat} {v : Value} {xs : List IV} (hl : look? st.obj k = some (.row e sz)) (hv : TVR κ (.acc k sz xs) v) : Rel κ N (st.setOb k (.lrow e sz v xs)) a ∧ v.oneCell' = true := by
  obtain ⟨hk, hr⟩ := h.o.obs _ _ hl
  cases hv with
  | acc _ _ _ _ hi =>
    refine ⟨h.asOb hl ⟨rfl, hi, hr⟩, ?_⟩
    generalize κ.tk k = v at hi
    cases hi
    rfl
theorem putAt_dem (S : List Nat) (k : Nat) (o o' : Ob) : ∀ l : List (Nat × Ob), putAt (demO S (putAt l k o)) k o' = putAt (demO S l) k o'
  | [] => rfl
  | (j, q) :: l => by
    have hd : ∀ (i : Nat) (q : Ob) (l : List (Nat × Ob)), demO S ((i, q) :: l) = (i, demB S q) :: demO S l := fun i q l => by cases q <;> rfl
    simp only [putAt]
    cases hb : k == j
    · simp only [cond_false, hd, putAt, hb, putAt_dem S k o o' l]
    · simp only [cond_true, hd, putAt, hb]
/-- append onto a row whose value is known to the letter. -/
theorem la_step {τ : Nat → TD} (hτ : TOK P τ) {N : Nat} {st : St} {a : Act} (h : Rel κ N st a) {o : Oper} {t u : TypeId} {x y : Operand} {e : TypeId} {sy : Nat} {ys : List IV} {k sz : Nat} {v v' : Value} {xs : List IV} (hop : o.op = .call ⟨.builtin .append, ⟨[x, y]⟩, ⟨[t, u]⟩⟩) (hkd : (τ t).kind = .slice e)
    (hx : ox st x = .iv (.lit v)) (hy : (ox st y).rows = some (sy, ys)) (hp : lrObj e st.obj = some (k, sz, v', xs)) (hC : (τ t).known = true ∧ (τ e).known = true ∧ t = u ∧ op? st x ∧ op? st y ∧ lens? (τ e).size ys ∧ 0 < (τ e).size ∧ v = v' ∧ sz = (τ e).size ∧ (xs.length + ys.length) * (τ e).bytes ≤ 140737488355328 ∧ xs.length + ys.length ≤ 4294967296) :
    ∃ κ' q, q.oneCell' = true ∧ (execOp a.eval o).run P κ.w = .ok (.value q) κ'.w ∧ Rel κ' N ((st.dem k).setOb k (.lrow e sz q (xs ++ ys))) a ∧ Ext κ κ' ∧ ∀ m, m ≤ κ.n → Keep m κ κ' := by
  obtain ⟨hk, hke, rfl, hpx, hpy, hlen, hsz, rfl, rfl, hb1, hb2⟩ := hC
  obtain ⟨ii, desc, z, hi, hu, _, _, _, hko, _⟩ := hτ t hk
  rw [hkd] at hko
  simp only [KOK] at hko
  subst hko
  have hxv := h.ox hpx
  rw [hx] at hxv
  have ex := ivlit hxv
  have hl := lrObj_spec h.o.nd hp
  obtain ⟨hr1, hacc⟩ := h.lr2row hl
  have hl1 : look? (st.setOb k (.row e (τ e).size)).obj k = some (.row e (τ e).size) := by
    simp only [St.setOb]
    rw [look?_putAt, if_pos rfl, hl]
    rfl
  obtain ⟨κ', q, hrun, hrel, he, hkeep, ht⟩ := append_ok (P := P) (t := t) hr1 hu (hτ e) hke hsz hacc (h.ox hpy) hy hlen (C := e = e ∧ (τ e).size = (τ e).size ∧ (τ e).size = (τ e).size ∧ (xs.length + ys.length) * (τ e).bytes ≤ 140737488355328 ∧ xs.length + ys.length ≤ 4294967296)
    (r := .acc k (τ e).size (xs ++ ys)) (st' := (st.setOb k (.row e (τ e).size)).dem k) (by simp only [appendE, hl1]) ⟨rfl, rfl, rfl, hb1, hb2⟩ o.type
  have hl2 : look? ((st.setOb k (.row e (τ e).size)).dem k).obj k = some (.row e (τ e).size) := by
    simp only [St.dem]
    rw [look?_demO, hl1]
    rfl
  obtain ⟨h3, h4⟩ := hrel.row2lr hl2 ht
  refine ⟨κ', q, h4, ?_, ?_, he, hkeep⟩
  · simp [execOp, hop, resolve, invoke, builtin, ex, hrun]
  · have e1 : ((st.setOb k (.row e (τ e).size)).dem k).setOb k (.lrow e (τ e).size q (xs ++ ys)) = (st.dem k).setOb k (.lrow e (τ e).size q (xs ++ ys)) := by
      simp only [St.setOb, St.dem, putAt_dem]
    rw [← e1]
    exact h3
/-- A call of a function, made. -/
theorem call_exec {N : Nat} {st : St} {a : Act} (h : Rel κ N st a) {o : Oper} {fo : Operand} {xs : List Operand} {ts : Array TypeId} (hop : o.op = .call ⟨.value fo, ⟨xs⟩, ts⟩) {g : FuncId} {caps : List TV} (hf : ox st fo = .clo g caps) (hC : op? st fo ∧ args? st xs) (hcall : Callable P g) :
    ∃ vs : List Value, (∀ w, (execOp a.eval o).run P w = .ok (.enter g vs.toArray) w) ∧ vs.length = (argsOf st xs ++ caps).length ∧ ∀ (j : Nat) (t : TV) (v : Value), (argsOf st xs ++ caps)[j]? = some t → vs[j]? = some v → TVR κ t v := by
  obtain ⟨hpf, hpx⟩ := hC
  have hfv := h.ox hpf
  rw [hf] at hfv
  generalize hfe : a.eval fo = fv at hfv
  cases hfv with
  | clo _ _ us hlu hus =>
    obtain ⟨fn, c, hfn, hbody, hname⟩ := hcall
    have hargs := args_ok h xs hpx
    refine ⟨xs.map a.eval ++ us, fun w => ?_, by simp [argsOf_length, hlu], fun j t v ht hv => ?_⟩
    · have hn2 : ¬ fn.name = "runtime.NumGoroutine" := by simpa using hname
      simp [execOp, hop, resolve, hfe, Deferred.ofValue, invoke, callFunc, hfn, hbody, hn2]
    · by_cases hj : j < xs.length
      · rw [List.getElem?_append_left (by rw [argsOf_length]; exact hj)] at ht
        rw [List.getElem?_append_left (by simpa using hj)] at hv
        exact hargs j t v ht hv
      · rw [List.getElem?_append_right (by rw [argsOf_length]; omega), argsOf_length] at ht
        rw [List.getElem?_append_right (by simp; omega), List.length_map] at hv
        exact hus _ t v ht hv
theorem call_ok {r : Option Nat} {N : Nat} {st : St} {a : Act} (h : Rel κ N st a) (hm : m ≤ κ.n) {o : Oper} {fo : Operand} {xs : List Operand} {ts : Array TypeId} (hop : o.op = .call ⟨.value fo, ⟨xs⟩, ts⟩) {g : FuncId} {caps : List TV} (hf : ox st fo = .clo g caps) (hC : op? st fo ∧ args? st xs)
    {K : TV → St → Prop} (hcall : Callable P g) (hG : ∀ (κ : Kx) (N : Nat) (a : Act) (vs : List Value), Rel κ N st a → m ≤ κ.n → vs.length = (argsOf st xs ++ caps).length → (∀ (j : Nat) (t : TV) (v : Value), (argsOf st xs ++ caps)[j]? = some t → vs[j]? = some v → TVR κ t v) →
      Calls P g vs.toArray κ.w (fun e w' => ∃ κ' v t st', e = .returned v ∧ κ'.w = w' ∧ Rel κ' N st' a ∧ Ext κ κ' ∧ Keep m κ κ' ∧ TVR κ' t v ∧ K t st'))
    {next : Act → World → Prop} {Q : Exit → Act → World → Prop} (hn : ∀ κ' v t st', Rel κ' N st' a → Ext κ κ' → Keep m κ κ' → TVR κ' t v → K t st' → next (a.put o.dst v) κ'.w) : o.wpIn { Fence.wide with round := r } 0 P a κ.w next Q := by
  obtain ⟨vs, hexec, hlen, hrel⟩ := call_exec h hop hf hC hcall
  refine ⟨fun _ _ => trivial, ?_⟩
  rw [Oper.semAt_eq _ _ _ (by rw [hop]; intro c hc; cases hc), hexec]
  refine ⟨fun e => (by cases e), ?_⟩
  show CallsIn Fence.wide 0 P g vs.toArray κ.w _
  refine (callsIn_wide.2 (hG κ N a vs h hm hlen hrel)).mono ?_
  rintro e w' ⟨κ1, v, t, st1, rfl, rfl, h1, he, hk, ht, hK⟩
  exact hn κ1 v t st1 h1 he hk ht hK
/-- A call of a loop's body. -/
theorem yield_ok {r : Option Nat} {N : Nat} {st : St} {a : Act} (h : Rel κ N st a) (hm : m ≤ κ.n) {o : Oper} {fo : Operand} {xs : List Operand} {ts : Array TypeId} (hop : o.op = .call ⟨.value fo, ⟨xs⟩, ts⟩) {k : Nat} (hf : ox st fo = .yld k) (hC : op? st fo ∧ args? st xs)
    {K : TV → St → Prop} (hG : PYield P m k (argsOf st xs) st K)
    {next : Act → World → Prop} {Q : Exit → Act → World → Prop} (hn : ∀ κ' v t st', Rel κ' N st' a → Ext κ κ' → Keep m κ κ' → TVR κ' t v → K t st' → next (a.put o.dst v) κ'.w) : o.wpIn { Fence.wide with round := r } 0 P a κ.w next Q := by
  obtain ⟨hpf, hpx⟩ := hC
  have hfv := h.ox hpf
  rw [hf] at hfv
  generalize hfe : a.eval fo = fv at hfv
  cases hfv with
  | yld _ b hk hb =>
    have hargs := args_ok h xs hpx
    obtain ⟨fn, tmps, as, bd, hy, hr⟩ := hG κ N a (xs.map a.eval) b h hm hb (by simp [argsOf_length]) hargs
    refine ⟨fun _ _ => trivial, ?_⟩
    have hexec : (execOp a.eval o).run P κ.w = .ok (.round b fn tmps as bd) κ.w := by
      simp only [execOp, hop, resolve, hfe]
      simp [Deferred.ofValue, invoke]
      simpa using hy
    rw [Oper.semAt_eq _ _ _ (by rw [hop]; intro c hc; cases hc), hexec]
    refine ⟨fun e => (by cases e), ?_⟩
    show RoundIn Fence.wide 0 P b fn tmps as bd κ.w _
    refine hr.mono ?_
    rintro e w' ⟨κ1, v, t, st1, rfl, rfl, h1, he, hk, ht, hK⟩
    exact hn κ1 v t st1 h1 he hk ht hK
/-- What an operation that is carried out is to the fenced walk. -/
theorem Ex.wpIn {r : Option Nat} {o : Oper} {a : Act} {w w' : World} {v : Value} (h : Ex P o a w v w') (hop : ∀ c, o.op ≠ .defer c) (K : Act → World → Prop) (Q : Exit → Act → World → Prop) (hK : K (a.put o.dst v) w') : o.wpIn { Fence.wide with round := r } 0 P a w K Q := by
  refine ⟨fun _ _ => trivial, ?_⟩
  rw [Oper.semAt_eq _ _ _ hop]
  rcases h with h | ⟨h, rfl⟩
  · rw [h]; exact hK
  · rw [h]; exact hK
theorem step_nodefer {τ : Nat → TD} {st : St} {o : Oper} (h : step τ st o ≠ .no) : ∀ c, o.op ≠ .defer c := by
  intro c hc
  apply h
  unfold step
  rw [hc]
  rfl

/-- Operations of a region, in the order of the text. -/
theorem wpO_okR {r : Option Nat} {τ : Nat → TD} (hτ : TOK P τ) {all : List Oper} {K : St → Prop} {Q : Exit → Act → World → Prop} {rest : List Oper} : ∀ (l : List Oper) (κ : Kx) (st : St) (a : Act), Rel κ N st a → m ≤ κ.n → dstOK N l = true → wpO (PG P m) τ all l st K →
    (∀ κ' st' a', Rel κ' N st' a' → Ext κ κ' → Keep m κ κ' → K st' → wpListIn { Fence.wide with round := r } 0 P all.toArray Q rest a' κ'.w) → wpListIn { Fence.wide with round := r } 0 P all.toArray Q (l ++ rest) a κ.w
  | [], κ, st, a, h, hm, _, hw, hQ => by
    simp only [wpO] at hw
    exact hQ κ st a h (Ext.refl κ) (Keep.refl m κ hm) hw
  | o :: l, κ, st, a, h, hm, hdst, hw, hQ => by
    simp only [dstOK, Bool.and_eq_true] at hdst
    obtain ⟨hd1, hd2⟩ := hdst
    have hd : ∀ i, o.dst = some i → i < N := by
      intro i hi
      rw [hi] at hd1
      simpa using hd1
    have next : ∀ κ1 st1 a1, Rel κ1 N st1 a1 → Ext κ κ1 → Keep m κ κ1 → wpO (PG P m) τ all l st1 K → wpListIn { Fence.wide with round := r } 0 P all.toArray Q (l ++ rest) a1 κ1.w :=
      fun κ1 st1 a1 h1 he hk hw1 => wpO_okR hτ l κ1 st1 a1 h1 hk.n hd2 hw1 (fun κ' st' a' h' he' hk' hK => hQ κ' st' a' h' (he.trans he') (hk.trans hk') hK)
    have exec : exO (PG P m) τ o st (fun st' => wpO (PG P m) τ all l st' K) → o.wpIn { Fence.wide with round := r } 0 P a κ.w (wpListIn { Fence.wide with round := r } 0 P all.toArray Q (l ++ rest)) Q := by
      intro hx
      unfold exO at hx
      split at hx
      · rename_i C t st' hs
        obtain ⟨κ1, v, hrun, h1, he, hk⟩ := step_ok hτ h hs hx.1 hd
        exact hrun.wpIn (step_nodefer (by rw [hs]; intro e; cases e)) _ _ (next κ1 _ _ h1 he (hk m hm) hx.2)
      · rename_i C f args hs
        obtain ⟨hC, hG0⟩ := hx
        obtain ⟨fo, xs, ts, hop, ⟨g, caps, hf, rfl, rfl, rfl⟩ | ⟨k, hf, rfl, rfl, rfl⟩⟩ | ⟨t, x, y, k, e, e', sz, xs, n, hop, hkd, hx, hl, hy, rfl, rfl⟩ | ⟨t, n, c, e, i, j, K', rs, hop, hkd, hn, hc, hp, rfl, rfl⟩ | ⟨t, u, x, y, e, sy, ys, k, sz, v, v', xs, hop, hkd, hx, hyr, hp, rfl, rfl⟩ := step_call hs
        · obtain ⟨hcall, hG⟩ := hG0
          exact call_ok h hm hop hf hC hcall hG (fun κ1 v t st1 h1 he hk ht hK => next κ1 _ _ (h1.putQ ht hd) he hk hK)
        · exact yield_ok h hm hop hf hC hG0 (fun κ1 v t st1 h1 he hk ht hK => next κ1 _ _ (h1.putQ ht hd) he hk hK)
        · obtain ⟨κ1, v, hex, hrel, he, hk, ht⟩ := cut_step hτ h hop hkd hx hl hy hC
          exact (Ex.wpIn (.inl hex)) (by rw [hop]; intro c hc; cases hc) _ _ (next κ1 _ _ (hrel.putQ ht hd) he (hk m hm) hG0)
        · obtain ⟨κ1, b, hfr, hex, hrel, he, hk⟩ := pmake_step hτ h hop hkd hn hc hp hC
          exact (Ex.wpIn (.inl hex)) (by rw [hop]; intro c hc; cases hc) _ _ (next κ1 _ _ (hrel.putQ (.iv _ _ (.lit _)) hd) he (hk m hm) (hG0 b hfr))
        · obtain ⟨κ1, q, hq, hex, hrel, he, hk⟩ := la_step hτ h hop hkd hx hyr hp hC
          exact (Ex.wpIn (.inl hex)) (by rw [hop]; intro c hc; cases hc) _ _ (next κ1 _ _ (hrel.putQ (.iv _ _ (.lit _)) hd) he (hk m hm) (hG0 q hq))
      · exact hx.elim
    simp only [wpO] at hw
    rw [List.cons_append]
    unfold wpListIn
    split at hw
    · rename_i hg
      rw [if_pos (by simp [Region.wanted, hg])]
      exact exec hw
    · rename_i j want hg
      split at hw
      · rename_i c hgc
        have hslot : ∃ d, gslot all j = some d ∧ gcond (st.get d) want = some c := by
          cases hs : gslot all j with
          | none => rw [hs] at hgc; cases hgc
          | some d => rw [hs] at hgc; exact ⟨d, rfl, hgc⟩
        obtain ⟨d, hsl, hgc'⟩ := hslot
        have hwant := guard_ok h hsl hgc' hg
        rw [hwant]
        split at hw
        · rename_i q hq
          cases c with
          | true =>
            rw [if_pos rfl]
            obtain ⟨u, hr, ht⟩ := quiet_ok (r := q.2) (C := q.1) hτ h hq (hw.1 rfl).1
            refine (Ex.wpIn (.inl (hr κ.w (Sees.refl _ _)))) (fun c hc => ?_) _ _ (next κ _ _ (h.putQ (.wh _ _ _ (fun _ => ht.strip (hw.1 rfl).2) (fun q => by cases q)) hd) (Ext.refl κ) (Keep.refl m κ hm) hw.2)
            rw [hc] at hq
            cases hq
          | false =>
            rw [if_neg (by simp)]
            exact ⟨fun _ _ => trivial, next κ _ _ (h.putQ (TVR.undef κ _ _ _ rfl rfl) hd) (Ext.refl κ) (Keep.refl m κ hm) hw.2⟩
        · cases c with
          | true =>
            rw [if_pos rfl]
            exact exec (hw.1 rfl)
          | false =>
            rw [if_neg (by simp)]
            exact ⟨fun _ _ => trivial, next κ _ _ (h.putQ (.any _) hd) (Ext.refl κ) (Keep.refl m κ hm) (hw.2 rfl)⟩
      · exact hw.elim

theorem wpO_ok {r : Option Nat} {τ : Nat → TD} (hτ : TOK P τ) {all : List Oper} {K : St → Prop} {Q : Exit → Act → World → Prop} (l : List Oper) (κ : Kx) (st : St) (a : Act) (h : Rel κ N st a) (hm : m ≤ κ.n) (hd : dstOK N l = true) (hw : wpO (PG P m) τ all l st K)
    (hQ : ∀ κ' st' a', Rel κ' N st' a' → Ext κ κ' → Keep m κ κ' → K st' → Q .normal a' κ'.w) : wpListIn { Fence.wide with round := r } 0 P all.toArray Q l a κ.w := by
  have := wpO_okR (r := r) (rest := []) hτ l κ st a h hm hd hw hQ
  rwa [List.append_nil] at this

section
variable {r : Option Nat}
theorem PWp.region {id : Nat} {τ : Nat → TD} (hτ : TOK P τ) {l : List Oper} {Q : Exit → St → Prop} {st : St} (hd : dstOK N l = true) (h : ∀ K : St → Prop, (∀ st', Q .normal st' → K st') → wpO (PG P m) τ l l st K) :
    PWpF r P N m (.region id l.toArray false) Q st := by
  intro κ a hr hm
  exact wpIn_region_lit (wpO_ok hτ l κ st a hr hm hd (h _ (fun _ q => q)) (fun κ' st' a' h' he hk hK => ⟨κ', st', rfl, h', he, hk, hK⟩))

/-- A region with a change of what is known in its midst. -/
theorem PWp.region2 {id : Nat} {τ : Nat → TD} (n : Nat) (hτ : TOK P τ) {l : List Oper} {Q : Exit → St → Prop} {st : St} (hd : dstOK N (l.take n) = true) (hd2 : dstOK N (l.drop n) = true)
    (h : ∀ K : St → Prop, (∀ st', Q .normal st' → K st') → wpO (PG P m) τ l (l.take n) st (fun st1 => ∃ st2, (∀ (κ : Kx) (N : Nat) (a : Act), Rel κ N st1 a → m ≤ κ.n → ∃ κ', κ'.w = κ.w ∧ Rel κ' N st2 a ∧ Ext κ κ' ∧ Keep m κ κ') ∧ wpO (PG P m) τ l (l.drop n) st2 K)) :
    PWpF r P N m (.region id l.toArray false) Q st := by
  intro κ a hr hm
  refine wpIn_region_lit ?_
  have := wpO_okR (r := r) (all := l) (rest := l.drop n) (Q := fun e a' w' => ∃ κ' st', κ'.w = w' ∧ Rel κ' N st' a' ∧ Ext κ κ' ∧ Keep m κ κ' ∧ Q e st') hτ (l.take n) κ st a hr hm hd (h _ (fun _ q => q)) (fun κ1 st1 a1 h1 he1 hk1 hK => by
    obtain ⟨st2, hg, hw⟩ := hK
    obtain ⟨κ2, e2, h2, he2, hk2⟩ := hg κ1 N a1 h1 hk1.n
    rw [← e2]
    exact wpO_ok hτ (l.drop n) κ2 st2 a1 h2 hk2.n hd2 hw (fun κ' st' a' h' he hk hK => ⟨κ', st', rfl, h', (he1.trans he2).trans he, (hk1.trans hk2).trans hk, hK⟩))
  rwa [List.take_append_drop] at this

/-- A region with an operation in it that yields a plain value, by the model's own word. -/
theorem PWp.regionX {id : Nat} {τ : Nat → TD} (n : Nat) {o : Oper} (hτ : TOK P τ) {l : List Oper} {Q : Exit → St → Prop} {st : St} (hl : l = l.take n ++ o :: l.drop (n + 1)) (hg : o.guard = none) (hdef : ∀ c, o.op ≠ .defer c) (ho : ∀ i, o.dst = some i → i < N) (hd : dstOK N (l.take n) = true) (hd2 : dstOK N (l.drop (n + 1)) = true)
    (h : ∀ K : St → Prop, (∀ st', Q .normal st' → K st') → wpO (PG P m) τ l (l.take n) st (fun st1 => ∃ v, (∀ (κ : Kx) (N : Nat) (a : Act), Rel κ N st1 a → (execOp a.eval o).run P κ.w = .ok (.value v) κ.w) ∧ wpO (PG P m) τ l (l.drop (n + 1)) (st1.put o.dst (.iv (.lit v))) K)) :
    PWpF r P N m (.region id l.toArray false) Q st := by
  intro κ a hr hm
  refine wpIn_region_lit ?_
  have := wpO_okR (r := r) (all := l) (rest := o :: l.drop (n + 1)) (Q := fun e a' w' => ∃ κ' st', κ'.w = w' ∧ Rel κ' N st' a' ∧ Ext κ κ' ∧ Keep m κ κ' ∧ Q e st') hτ (l.take n) κ st a hr hm hd (h _ (fun _ q => q)) (fun κ1 st1 a1 h1 he1 hk1 hK => by
    obtain ⟨v, hrun, hw⟩ := hK
    unfold wpListIn
    rw [if_pos (by simp [Region.wanted, hg])]
    refine (Ex.wpIn (.inl (hrun κ1 N a1 h1))) (fun c hc => absurd hc (hdef c)) _ _ ?_
    exact wpO_ok hτ (l.drop (n + 1)) κ1 _ _ (h1.putQ (.iv _ _ (.lit v)) ho) hk1.n hd2 hw (fun κ' st' a' h' he hk hK => ⟨κ', st', rfl, h', he1.trans he, hk1.trans hk, hK⟩))
  rwa [← hl] at this

theorem PWp.seq {x y : Code} {Q : Exit → St → Prop} {st : St} (h : PWpF r P N m x (fun e st' => match e with | .normal => PWpF r P N m y Q st' | e => Q e st') st) : PWpF r P N m (.seq x y) Q st := by
  intro κ a hr hm
  refine wpIn_seq (wpIn_mono (h κ a hr hm) ?_)
  rintro e a' w' ⟨κ1, st1, rfl, h1, he, hk, hq⟩
  cases e with
  | normal =>
    refine wpIn_mono (hq κ1 a' h1 hk.n) ?_
    rintro e a'' w'' ⟨κ2, st2, rfl, h2, he2, hk2, hq2⟩
    exact ⟨κ2, st2, rfl, h2, he.trans he2, hk.trans hk2, hq2⟩
  | _ => exact ⟨κ1, st1, rfl, h1, he, hk, hq⟩
theorem PWp.cond {i : Nat} {x y : Code} {Q : Exit → St → Prop} {st : St} {b : Bool} (hc : st.get i = .iv (.lit (.bool b))) (ht : b = true → PWpF r P N m x Q st) (hf : b = false → PWpF r P N m y Q st) : PWpF r P N m (.cond (.tmp i) x y) Q st := by
  intro κ a hr hm
  have e : a.eval (.tmp i) = .bool b := ivlit (by have := hr.env i; rw [hc] at this; exact this)
  exact wpIn_cond_split e (fun hb => ht hb κ a hr hm) (fun hb => hf hb κ a hr hm)
theorem PWp.skip {Q : Exit → St → Prop} {st : St} (h : Q .normal st) : PWpF r P N m .skip Q st := fun κ a hr hm => wpIn_skip ⟨κ, st, rfl, hr, Ext.refl κ, Keep.refl m κ hm, h⟩
theorem PWp.ret {Q : Exit → St → Prop} {st : St} (h : Q .ret st) : PWpF r P N m .ret Q st := fun κ a hr hm => wpIn_ret ⟨κ, st, rfl, hr, Ext.refl κ, Keep.refl m κ hm, h⟩
theorem PWp.exit {i : Nat} {Q : Exit → St → Prop} {st : St} (h : Q (.exit i) st) : PWpF r P N m (.exit i) Q st := fun κ a hr hm => wpIn_exit ⟨κ, st, rfl, hr, Ext.refl κ, Keep.refl m κ hm, h⟩
theorem PWp.block {i : Nat} {c : Code} {Q : Exit → St → Prop} {st : St} (h : PWpF r P N m c (fun e st' => match e with | .exit j => if j = i then Q .normal st' else Q (.exit j) st' | e => Q e st') st) : PWpF r P N m (.block i c) Q st := by
  intro κ a hr hm
  refine wpIn_block (wpIn_mono (h κ a hr hm) ?_)
  rintro e a' w' ⟨κ1, st1, rfl, h1, he, hk, hq⟩
  cases e with
  | exit j =>
    simp only [Exit.inBlock]
    simp only at hq
    split
    · rename_i e; subst e; rw [if_pos rfl] at hq; exact ⟨κ1, st1, rfl, h1, he, hk, hq⟩
    · rename_i e; rw [if_neg e] at hq; exact ⟨κ1, st1, rfl, h1, he, hk, hq⟩
  | _ => exact ⟨κ1, st1, rfl, h1, he, hk, hq⟩
theorem PWp.mono {c : Code} {Q Q' : Exit → St → Prop} {st : St} (h : PWpF r P N m c Q st) (hq : ∀ e st, Q e st → Q' e st) : PWpF r P N m c Q' st := by
  intro κ a hr hm
  refine wpIn_mono (h κ a hr hm) ?_
  rintro e a' w' ⟨κ1, st1, rfl, h1, he, hk, q⟩
  exact ⟨κ1, st1, rfl, h1, he, hk, hq _ _ q⟩

/-- A step that is none of the program's: the state is told anew. -/
def Gh (m : Nat) (st st' : St) : Prop := ∀ (κ : Kx) (N : Nat) (a : Act), Rel κ N st a → m ≤ κ.n → ∃ κ', κ'.w = κ.w ∧ Rel κ' N st' a ∧ Ext κ κ' ∧ Keep m κ κ'
theorem Gh.refl (m : Nat) (st : St) : Gh m st st := fun κ N a h hm => ⟨κ, rfl, h, Ext.refl κ, Keep.refl m κ hm⟩
theorem Gh.trans {a b c : St} (h : Gh m a b) (k : Gh m b c) : Gh m a c := fun κ N x hr hm =>
  let ⟨κ1, e1, h1, x1, k1⟩ := h κ N x hr hm
  let ⟨κ2, e2, h2, x2, k2⟩ := k κ1 N x h1 k1.n
  ⟨κ2, e2.trans e1, h2, x1.trans x2, k1.trans k2⟩
theorem PWp.gh {c : Code} {Q : Exit → St → Prop} {st st' : St} (g : Gh m st st') (h : PWpF r P N m c Q st') : PWpF r P N m c Q st := by
  intro κ a hr hm
  obtain ⟨κ1, e1, h1, x1, k1⟩ := g κ N a hr hm
  rw [← e1]
  refine wpIn_mono (h κ1 a h1 k1.n) ?_
  rintro e a' w' ⟨κ2, st2, rfl, h2, he, hk, q⟩
  exact ⟨κ2, st2, rfl, h2, x1.trans he, k1.trans hk, q⟩

theorem PWp.loop {c : Code} {Q : Exit → St → Prop} {st : St} (I : Nat → St → Prop) (k0 : Nat) (st0 : St) (h0 : I k0 st0) (hg : Gh m st st0)
    (h : ∀ k st, I k st → PWpF r P N m c (fun e st' => match e with | .normal => ∃ k' st'', k' < k ∧ I k' st'' ∧ Gh m st' st'' | e => Q e st') st) : PWpF r P N m (.loop c) Q st := by
  intro κ a hr hm
  obtain ⟨κ1, e1, h1, x1, k1⟩ := hg κ N a hr hm
  refine wpIn_loop_ghost (fun k a' w' => ∃ κ' st', κ'.w = w' ∧ Rel κ' N st' a' ∧ Ext κ κ' ∧ Keep m κ κ' ∧ I k st') k0 ⟨κ1, st0, e1, h1, x1, k1, h0⟩ ?_
  rintro k a' w' ⟨κ2, st2, rfl, h2, x2, k2, hI⟩
  refine wpIn_mono (h k st2 hI κ2 a' h2 k2.n) ?_
  rintro e a'' w'' ⟨κ3, st3, rfl, h3, x3, k3, q⟩
  cases e with
  | normal =>
    obtain ⟨k', st4, hlt, hI4, hg4⟩ := q
    obtain ⟨κ4, e4, h4, x4, k4⟩ := hg4 κ3 N a'' h3 k3.n
    exact ⟨k', hlt, κ4, st4, e4, h4, (x2.trans x3).trans x4, (k2.trans k3).trans k4, hI4⟩
  | _ => exact ⟨κ3, st3, rfl, h3, x2.trans x3, k2.trans k3, q⟩
end

/-! ### What may be forgotten -/
theorem TVR.cut1 {t : TV} {v : Value} {n : Nat} (h : TVR κ t v) (hok : t.ok1 n = true) : TVR { κ with n := n } t v := by
  cases h with
  | any v => exact .any v
  | iv x v h => exact .iv x v h
  | nilsl => exact .nilsl
  | nsl sz xs ad n' c h => exact .nsl sz xs ad n' c h
  | acc k sz xs hk h => exact .acc (κ := { κ with n := n }) k sz xs (by simpa [TV.ok1] using hok) h
  | bptr k off b hk h => exact .bptr k off b (by simpa [TV.ok1] using hok) h
  | mptr k b hk h => exact .mptr k b (by simpa [TV.ok1] using hok) h
  | mrow k A n' c hk h => exact .mrow k A n' c (by simpa [TV.ok1] using hok) h
  | eptr k sz i off b n' c hk h => exact .eptr k sz i off b n' c (by simpa [TV.ok1] using hok) h
  | yld k b hk h => exact .yld k b (by simpa [TV.ok1] using hok) h
  | rptr cs ad us hl h1 ha h => exact .rptr cs ad us hl h1 ha h
  | clo f caps us hl h => simp [TV.ok1] at hok
  | tup vs us hl h => simp [TV.ok1] at hok
  | wh b t v h hu => simp [TV.ok1] at hok
theorem TVR.cutN {t : TV} {v : Value} {n : Nat} (h : TVR κ t v) (hok : t.okN n = true) : TVR { κ with n := n } t v := by
  cases h with
  | clo f caps us hl h =>
    simp only [TV.okN, List.all_eq_true] at hok
    exact .clo f caps us hl (fun j c u hc hu => (h j c u hc hu).cut1 (hok c (List.mem_of_getElem? hc)))
  | tup vs us hl h =>
    simp only [TV.okN, List.all_eq_true] at hok
    exact .tup vs us hl (fun j c u hc hu => (h j c u hc hu).cut1 (hok c (List.mem_of_getElem? hc)))
  | any v => exact .any v
  | iv x v h => exact .iv x v h
  | nilsl => exact .nilsl
  | nsl sz xs ad n' c h => exact .nsl sz xs ad n' c h
  | acc k sz xs hk h => exact (TVR.acc k sz xs hk h).cut1 hok
  | bptr k off b hk h => exact (TVR.bptr k off b hk h).cut1 hok
  | mptr k b hk h => exact (TVR.mptr k b hk h).cut1 hok
  | mrow k A n' c hk h => exact (TVR.mrow k A n' c hk h).cut1 hok
  | eptr k sz i off b n' c hk h => exact (TVR.eptr k sz i off b n' c hk h).cut1 hok
  | yld k b hk h => exact (TVR.yld k b hk h).cut1 hok
  | rptr cs ad us hl h1 ha h => exact .rptr cs ad us hl h1 ha h
  | wh b t v h hu => simp [TV.okN, TV.ok1] at hok
theorem IV.leqL_get : ∀ (l m : List IV), IV.leqL l m → m.length = l.length ∧ ∀ (j : Nat) (x y : IV), l[j]? = some x → m[j]? = some y → IV.leq x y
  | [], [], _ => ⟨rfl, by simp⟩
  | [], _ :: _, h => by simp [IV.leqL] at h
  | _ :: _, [], h => by simp [IV.leqL] at h
  | x :: l, y :: m, h => by
    simp only [IV.leqL] at h
    obtain ⟨h1, h2⟩ := IV.leqL_get l m h.2
    refine ⟨by simp [h1], fun j x' y' hx hy => ?_⟩
    cases j with
    | zero => simp at hx hy; subst hx; subst hy; exact h.1
    | succ j => exact h2 j x' y' (by simpa using hx) (by simpa using hy)
theorem IV.leq_cells {x y : IV} (h : IV.leq x y) : IV.leqL x.cells y.cells := by
  cases x with
  | any => simp only [IV.leq] at h; subst h; simp [IV.cells, IV.leqL, IV.leq]
  | lit v => simp only [IV.leq] at h; subst h; simp [IV.cells, IV.leqL, IV.leq]
  | agg cs => cases y <;> simp only [IV.leq] at h; exact h
  | sl sz xs =>
    cases y with
    | sl sz' ys => exact ⟨h, trivial⟩
    | _ => simp only [IV.leq] at h
theorem IV.leqL_app : ∀ {a b c d : List IV}, IV.leqL a b → IV.leqL c d → IV.leqL (a ++ c) (b ++ d)
  | [], [], _, _, _, h => h
  | [], _ :: _, _, _, h, _ => by simp [IV.leqL] at h
  | _ :: _, [], _, _, h, _ => by simp [IV.leqL] at h
  | x :: a, y :: b, c, d, h, h' => by
    simp only [IV.leqL] at h
    exact ⟨h.1, IV.leqL_app h.2 h'⟩
theorem IV.leqL_flat : ∀ (l m : List IV), IV.leqL l m → IV.leqL (l.flatMap IV.cells) (m.flatMap IV.cells)
  | [], [], _ => trivial
  | [], _ :: _, h => by simp [IV.leqL] at h
  | _ :: _, [], h => by simp [IV.leqL] at h
  | x :: l, y :: m, h => by
    simp only [IV.leqL] at h
    rw [List.flatMap_cons, List.flatMap_cons]
    exact IV.leqL_app (IV.leq_cells h.1) (IV.leqL_flat l m h.2)
theorem IVR.leq {w : World} {prot : Addr → Prop} {x : IV} {v : Value} (h : IVR w prot x v) : ∀ {y : IV}, IV.leq x y → IVR w prot y v := by
  induction h with
  | any v => intro y hy; simp only [IV.leq] at hy; subst hy; exact .any v
  | lit v => intro y hy; simp only [IV.leq] at hy; subst hy; exact .lit v
  | agg cs us hl h1 h ih =>
    intro y hy
    cases y with
    | agg ds =>
      simp only [IV.leq] at hy
      obtain ⟨e1, e2⟩ := IV.leqL_get cs ds hy
      refine .agg ds us (by omega) h1 (fun j c u hc hu => ?_)
      have hj : j < cs.length := by have := (List.getElem?_eq_some_iff.1 hc).1; omega
      exact ih j cs[j] u (List.getElem?_eq_getElem hj) hu (e2 j _ c (List.getElem?_eq_getElem hj) hc)
    | _ => simp only [IV.leq] at hy
  | sl A sz xs c us hc hl hsz h1 hA ha hh hN ih =>
    intro y hy
    cases y with
    | sl sz' ys =>
      simp only [IV.leq] at hy
      rcases hy with ⟨rfl, rfl⟩ | ⟨rfl, hy⟩
      · have : us = [] := by
          simp at hl; exact hl
        subst this
        exact .sl A sz' [] c [] hc (by simp) (by simp) (by simp) hA (by simp) (by simp) hN
      · obtain ⟨e1, e2⟩ := IV.leqL_get xs ys hy
        obtain ⟨f1, f2⟩ := IV.leqL_get _ _ (IV.leqL_flat xs ys hy)
        rw [← e1]
        refine .sl A sz ys c us (by omega) (by rw [e1]; exact hl) (fun y hy' => ?_) h1 (by rw [e1]; exact hA) ha (fun j x u hx hu => ?_) hN
        · obtain ⟨j, hj, rfl⟩ := List.getElem_of_mem hy'
          have hj' : j < xs.length := by omega
          have := (IV.leqL_get _ _ (IV.leq_cells (e2 j _ _ (List.getElem?_eq_getElem hj') (List.getElem?_eq_getElem hj)))).1
          rw [this]
          exact hsz _ (List.getElem_mem hj')
        · have hj : j < (xs.flatMap IV.cells).length := by have := (List.getElem?_eq_some_iff.1 hx).1; omega
          exact ih j _ u (List.getElem?_eq_getElem hj) hu (f2 j _ x (List.getElem?_eq_getElem hj) hx)
    | _ => simp only [IV.leq] at hy
theorem TVR.le {t t' : TV} {v : Value} (h : TVR κ t v) (hle : TVle t t') : TVR κ t' v := by
  unfold TVle at hle
  split at hle
  · exact .any v
  · rcases hle with e | e | e
    · rw [← e]; exact .iv _ _ h.im
    · rw [← e]; exact h
    · exact .iv _ _ (h.im.leq e)
  · cases h with
    | iv _ _ h => cases h; exact .nilsl
  · rw [← hle]; exact h

theorem envle_get {st : St} {n : Nat} : ∀ (l : List (Nat × TV)), envle st n l → ∀ i, look? l i = none ∨ ∃ t, look? l i = some t ∧ TVle (st.get i) t ∧ t.okN n = true
  | [], _, i => .inl rfl
  | (j, t) :: l, h, i => by
    simp only [look?]
    cases hb : i == j
    · exact envle_get l h.2.2 i
    · have e : i = j := by simpa using hb
      subst e
      exact .inr ⟨t, rfl, h.1, h.2.1⟩
theorem cellsle_get {n : Nat} : ∀ (l l' : List TV), cellsle n l l' → l'.length = l.length ∧ ∀ (j : Nat) (t' : TV), l'[j]? = some t' → ∃ t, l[j]? = some t ∧ TVle t t' ∧ t'.okN n = true
  | [], [], _ => ⟨rfl, by simp⟩
  | [], _ :: _, h => h.elim
  | _ :: _, [], h => h.elim
  | t :: l, t' :: l', h => by
    obtain ⟨h1, h2⟩ := cellsle_get l l' h.2.2
    refine ⟨by simp [h1], fun j u hu => ?_⟩
    cases j with
    | zero => simp at hu; subst hu; exact ⟨t, rfl, h.1, h.2.1⟩
    | succ j => simp at hu; simpa using h2 j u hu
theorem mapsle_get {n : Nat} : ∀ (l l' : List (Int × TV)), mapsle n l l' → l'.length = l.length ∧ ∀ (j : Nat) (t' : Int × TV), l'[j]? = some t' → ∃ t, l[j]? = some t ∧ t.1 = t'.1 ∧ TVle t.2 t'.2 ∧ t'.2.okN n = true
  | [], [], _ => ⟨rfl, by simp⟩
  | [], _ :: _, h => h.elim
  | _ :: _, [], h => h.elim
  | (a, t) :: l, (a', t') :: l', h => by
    obtain ⟨h1, h2⟩ := mapsle_get l l' h.2.2.2
    refine ⟨by simp [h1], fun j u hu => ?_⟩
    cases j with
    | zero => simp at hu; subst hu; exact ⟨(a, t), rfl, h.1, h.2.1, h.2.2.1⟩
    | succ j => simp at hu; simpa using h2 j u hu
/-- What is left of an object. -/
def oble (n : Nat) : Ob → Ob → Prop
  | .box ty cs, .box ty' cs' => ty = ty' ∧ cellsle n cs cs'
  | .row e sz, .row e' sz' => e = e' ∧ sz = sz'
  | .map kt vt es, .map kt' vt' es' => kt = kt' ∧ vt = vt' ∧ mapsle n es es'
  | .mrow e sz xs, .mrow e' sz' xs' => e = e' ∧ sz = sz' ∧ xs = xs'
  | .pins e rs, .pins e' rs' => e = e' ∧ rs = rs'
  | .lrow e sz v xs, .lrow e' sz' v' xs' => e = e' ∧ sz = sz' ∧ v = v' ∧ xs = xs'
  | .lp s ps a b env, .lp s' ps' a' b' env' => s = s' ∧ ps = ps' ∧ a = a' ∧ b = b' ∧ env = env' ∧ envOk n env'
  | _, _ => False
theorem obsle_get {st : St} {n : Nat} : ∀ (l : List (Nat × Ob)), obsle st n l → ∀ k o', look? l k = some o' → k < n ∧ ∃ o, look? st.obj k = some o ∧ oble n o o'
  | [], _, k, o', hk => by cases hk
  | (j, o) :: l, h, k, o', hk => by
    simp only [look?] at hk
    cases hb : k == j
    · rw [hb] at hk
      exact obsle_get l h.2.2 k o' hk
    · have e : k = j := by simpa using hb
      subst e
      rw [hb] at hk
      simp only [cond_true, Option.some.injEq] at hk
      subst hk
      refine ⟨h.2.1, ?_⟩
      have h1 := h.1
      cases hl : look? st.obj k with
      | none => rw [hl] at h1; exact h1.elim
      | some q =>
        rw [hl] at h1
        refine ⟨q, rfl, ?_⟩
        cases q <;> cases o <;> simp only [oble] at h1 ⊢ <;> exact h1

theorem envOk_get {n : Nat} : ∀ (l : List (Nat × TV)), envOk n l → ∀ i t, look? l i = some t → t.okN n = true
  | [], _, i, t, h => by cases h
  | (j, u) :: l, hh, i, t, h => by
    simp only [look?] at h
    cases hb : i == j
    · rw [hb] at h; exact envOk_get l hh.2 i t h
    · rw [hb] at h
      simp only [cond_true, Option.some.injEq] at h
      subst h; exact hh.1
theorem ObR.le {k n : Nat} {o o' : Ob} (h : ObR κ k o) (hle : oble n o o') : ObR { κ with n := n } k o' := by
  cases o with
  | box ty cs =>
    cases o' with
    | box ty' cs' =>
      obtain ⟨rfl, hc⟩ := hle
      obtain ⟨hl, hg⟩ := cellsle_get cs cs' hc
      obtain ⟨b, us, h1, h2, h3, h4, h5, h6, h7⟩ := h
      refine ⟨b, us, h1, h2, by rw [hl]; exact h3, fun j c u hcj hu => ?_, h5, h6, h7⟩
      obtain ⟨t, ht, hle, hok⟩ := hg j c hcj
      exact ((h4 j t u ht hu).le hle).cutN hok
    | _ => exact hle.elim
  | row e sz =>
    cases o' with
    | row e' sz' =>
      obtain ⟨rfl, rfl⟩ := hle
      exact h
    | _ => exact hle.elim
  | map kt vt es =>
    cases o' with
    | map _ _ es' =>
      obtain ⟨rfl, rfl, hc⟩ := hle
      obtain ⟨hl, hg⟩ := mapsle_get es es' hc
      obtain ⟨b, ms, clock, h1, h2, h3, h4, h6, h7⟩ := h
      refine ⟨b, ms, clock, h1, h2, by rw [hl]; exact h3, fun j p e hp he' => ?_, h6, h7⟩
      obtain ⟨t, ht, h1', hle, hok⟩ := hg j p hp
      exact ⟨by rw [← h1']; exact (h4 j t e ht he').1, ((h4 j t e ht he').2.le hle).cutN hok⟩
    | _ => exact hle.elim
  | mrow e sz xs =>
    cases o' with
    | mrow _ _ _ =>
      obtain ⟨rfl, rfl, rfl⟩ := hle
      exact h
    | _ => exact hle.elim
  | pins e rs =>
    cases o' with
    | pins _ _ =>
      obtain ⟨rfl, rfl⟩ := hle
      exact h
    | _ => exact hle.elim
  | lrow e sz v xs =>
    cases o' with
    | lrow _ _ _ _ =>
      obtain ⟨rfl, rfl, rfl, rfl⟩ := hle
      exact h
    | _ => exact hle.elim
  | lp s ps as bd env =>
    cases o' with
    | lp _ _ _ _ _ =>
      obtain ⟨rfl, rfl, rfl, rfl, rfl, hok⟩ := hle
      obtain ⟨b, d, fn, tmps, h1, h2, h3, h6, h7⟩ := h
      refine ⟨b, d, fn, tmps, h1, h2, ⟨h3.1, fun i => ?_⟩, h6, h7⟩
      have := h3.2 i
      rw [look_eq] at this ⊢
      cases hq : look? env i with
      | none => exact .any _
      | some t => rw [hq] at this; exact this.cutN (envOk_get env hok i t hq)
    | _ => exact hle.elim

theorem RelO.le {st : St} {n : Nat} {obj' : List (Nat × Ob)} (h : RelO κ st.obj) (hle : obsle st n obj') (hnd : keysNd obj') : RelO { κ with n := n } obj' := by
  refine ⟨fun k o' hk => ?_, fun k o k' o' hk hk' hne b hb hb' => ?_, hnd, h.prot, h.fr⟩
  · obtain ⟨hlt, o, ho, hoo⟩ := obsle_get obj' hle k o' hk
    exact ⟨hlt, (h.obs k o ho).2.le hoo⟩
  · obtain ⟨_, o1, ho1, _⟩ := obsle_get obj' hle k o hk
    obtain ⟨_, o2, ho2, _⟩ := obsle_get obj' hle k' o' hk'
    exact h.dis k o1 k' o2 ho1 ho2 hne b hb hb'

theorem Gh.le {st st' : St} (hle : st.le st') (hm : m ≤ st'.nx) : Gh m st st' := by
  intro κ N a h hmn
  obtain ⟨hn, he, ho, hnd⟩ := hle
  refine ⟨{ κ with n := st'.nx }, rfl, ⟨h.o.le ho hnd, fun i => ?_, h.size, h.nodef, rfl⟩, ⟨rfl, rfl, rfl, Nat.le_refl _, ⟨fun _ h => h, rfl⟩, fun _ _ => rfl, fun _ h => ⟨h, rfl⟩, fun _ h => .inl h⟩, ⟨hm, fun _ _ _ => rfl⟩⟩
  simp only [St.get, look_eq]
  rcases envle_get st'.env he i with hn | ⟨t, ht, hle, hok⟩
  · rw [hn]; exact .any _
  · rw [ht]
    exact ((h.env i).le hle).cutN hok

/-- A nil slice is a row that nothing has been appended to yet. -/
theorem Gh.row {st : St} (i : Nat) (e : TypeId) (sz : Nat) (hi : st.get i = .nilsl) : Gh m st ((st.new (.row e sz)).set i (.acc st.nx sz [])) := by
  intro κ N a h hm
  let κ' : Kx := ⟨κ.w, κ.prot, κ.F, updF κ.tk κ.n (.slice none 0 0), κ.n + 1⟩
  have he : Ext κ κ' := ⟨rfl, rfl, rfl, Nat.le_refl _, ⟨fun _ h => h, rfl⟩, fun _ _ => rfl, fun _ h => ⟨h, rfl⟩, fun _ h => .inl h⟩
  have ht : ∀ k, k < κ.n → κ'.tk k = κ.tk k := fun k hk => updF_ne _ _ (by omega)
  have hnew : κ'.tk κ.n = .slice none 0 0 := updF_same _ _ _
  have hv : a.tmps.getD i undef = .slice none 0 0 := by
    have := h.env i
    rw [hi] at this
    generalize a.tmps.getD i undef = v at this
    cases this; rfl
  have hne : ∀ k o', look? st.obj k = some o' → k ≠ κ.n := fun k o' hk e => by have := (h.o.obs k o' hk).1; omega
  have hnone : look? st.obj κ.n = none := by
    cases hl : look? st.obj κ.n with
    | none => rfl
    | some o' => exact absurd rfl (hne _ _ hl)
  have hlook : ∀ k o', look? ((κ.n, Ob.row e sz) :: st.obj) k = some o' → (k = κ.n ∧ o' = .row e sz) ∨ (k ≠ κ.n ∧ look? st.obj k = some o') := by
    intro k o' hk
    simp only [look?] at hk
    by_cases e : k = κ.n
    · subst e
      simp at hk
      exact .inl ⟨rfl, hk.symm⟩
    · have hb : (k == κ.n) = false := beq_eq_false_iff_ne.2 e
      rw [hb] at hk
      exact .inr ⟨e, hk⟩
  refine ⟨κ', rfl, ⟨⟨fun k o hk => ?_, fun k o1 k' o2 hk hk' hkk b hb1 hb2 => ?_, ?_, h.o.prot, h.o.fr⟩, fun j => ?_, h.size, h.nodef, ?_⟩, he, ⟨Nat.le_succ_of_le hm, fun k hk _ => ht k (by omega)⟩⟩
  · simp only [St.set, St.new, ← h.nx] at hk
    rcases hlook k o hk with ⟨rfl, rfl⟩ | ⟨hkn, hk1⟩
    · exact ⟨Nat.lt_succ_self _, .inl hnew⟩
    · obtain ⟨h1, h2⟩ := h.o.obs k o hk1
      exact ⟨Nat.lt_succ_of_lt h1, h2.keep he (fun _ h => h) (Nat.le_succ _) ht h1 (fun _ _ => rfl) (fun a ha => .inl ha)⟩
  · simp only [St.set, St.new, ← h.nx] at hk hk'
    rcases hlook k o1 hk with ⟨rfl, rfl⟩ | ⟨hkn, hk1⟩
    · rw [hnew] at hb1; cases hb1
    · rcases hlook k' o2 hk' with ⟨rfl, rfl⟩ | ⟨hkn', hk2⟩
      · rw [hnew] at hb2; cases hb2
      · rw [ht k (h.o.obs k o1 hk1).1] at hb1
        rw [ht k' (h.o.obs k' o2 hk2).1] at hb2
        exact h.o.dis k o1 k' o2 hk1 hk2 hkk b hb1 hb2
  · simp only [St.set, St.new, ← h.nx]
    exact ⟨hnone, h.o.nd⟩
  · rw [St.get_set]
    split
    · rename_i e
      subst e
      rw [hv, ← hnew, ← h.nx]
      exact .acc κ.n sz [] (Nat.lt_succ_self _) (by rw [hnew]; exact .sl none sz [] 0 [] (Nat.le_refl _) (by simp) (by simp) (by simp) (by simp) (by simp) (by simp) (fun _ => rfl))
    · exact (h.env j).mono he (Nat.le_succ _) ht
  · show κ.n + 1 = st.nx + 1
    rw [h.nx]
end
end Go.PL
