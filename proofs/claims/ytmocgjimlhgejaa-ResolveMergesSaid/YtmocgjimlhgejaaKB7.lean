/- EACH OPERATION THAT IS NO CALL: what the pure state says of it holds. -/
import Derived.Test.YtmocgjimlhgejaaKBN
import Derived.Great.BuildSlice
namespace Go.PL
open Go.RowKit (Below)
set_option linter.unusedSimpArgs false
set_option linter.unusedVariables false
section
variable {P : Program} {κ κ' : Kx}

theorem wp_value {o : Oper} {a : Act} {w w' : World} {v : Value} (h : (execOp a.eval o).run P w = .ok (.value v) w') (K : Act → World → Prop) (Q : Exit → Act → World → Prop) (hK : K (a.put o.dst v) w') : o.wp P a w K Q := by
  unfold Oper.wp; rw [h]; exact hK
theorem wp_skip_ {o : Oper} {a : Act} {w w' : World} (h : (execOp a.eval o).run P w = .ok .skip w') (K : Act → World → Prop) (Q : Exit → Act → World → Prop) (hK : K (a.put o.dst undef) w') : o.wp P a w K Q := by
  unfold Oper.wp; rw [h]; exact hK

/-- Cells of a variable. -/
def CT (κ : Kx) (cs : List TV) (us : List Value) : Prop :=
  us.length = cs.length ∧ (∀ u ∈ us, u.oneCell' = true) ∧ ∀ (j : Nat) (c : TV) (u : Value), cs[j]? = some c → us[j]? = some u → TVR κ c u
theorem CT.app {cs ds : List TV} {us vs : List Value} (h : CT κ cs us) (k : CT κ ds vs) : CT κ (cs ++ ds) (us ++ vs) := by
  refine ⟨by simp [h.1, k.1], fun u hu => (List.mem_append.1 hu).elim (h.2.1 u) (k.2.1 u), fun j c u hc hu => ?_⟩
  by_cases hj : j < us.length
  · rw [List.getElem?_append_left hj] at hu
    rw [List.getElem?_append_left (by rw [← h.1]; exact hj)] at hc
    exact h.2.2 _ _ _ hc hu
  · rw [List.getElem?_append_right (by omega)] at hu
    rw [List.getElem?_append_right (by rw [← h.1]; omega), ← h.1] at hc
    exact k.2.2 _ _ _ hc hu
theorem CT.take {cs : List TV} {us : List Value} (h : CT κ cs us) (n : Nat) : CT κ (cs.take n) (us.take n) := by
  refine ⟨by simp [h.1], fun u hu => h.2.1 u (List.mem_of_mem_take hu), fun j c u hc hu => ?_⟩
  rw [List.getElem?_take] at hc hu
  split at hc
  · rw [if_pos (by assumption)] at hu; exact h.2.2 _ _ _ hc hu
  · cases hc
theorem CT.drop {cs : List TV} {us : List Value} (h : CT κ cs us) (n : Nat) : CT κ (cs.drop n) (us.drop n) := by
  refine ⟨by simp [h.1], fun u hu => h.2.1 u (List.mem_of_mem_drop hu), fun j c u hc hu => ?_⟩
  rw [List.getElem?_drop] at hc hu
  exact h.2.2 _ _ _ hc hu
theorem CT.zero : ∀ (l : List Value), (∀ v ∈ l, v.oneCell' = true) → CT κ (zTVs l) l
  | [], _ => ⟨rfl, by simp, by simp [zTVs]⟩
  | v :: l, h => by
    have ih := CT.zero l (fun u hu => h u (List.mem_cons_of_mem _ hu))
    refine ⟨by simp [zTVs, ih.1], h, fun j c u hc hu => ?_⟩
    cases j with
    | zero => simp [zTVs] at hc hu; subst hc; subst hu; exact .cst κ _
    | succ j => simp [zTVs] at hc hu; exact ih.2.2 j c u hc hu
theorem CT.cells {t : TV} {v : Value} (h : TVR κ t v) (h1 : t.one) : CT κ t.cells v.cells.toList := by
  have single : ∀ (t : TV) (v : Value), TVR κ t v → v.cells = #[v] → v.oneCell' = true → t.cells = [t] → CT κ t.cells v.cells.toList := by
    intro t v h e1 e2 e3
    rw [e1, e3]
    refine ⟨rfl, by simpa using e2, fun j c u hc hu => ?_⟩
    cases j with
    | zero => simp at hc hu; subst hc; subst hu; exact h
    | succ j => simp at hc
  cases h with
  | any v => exact h1.elim
  | iv x v hx =>
    have hc := CR.cells hx h1
    cases x with
    | agg cs =>
      simp only [TV.cells]
      refine ⟨by simpa [IV.cells] using hc.1, hc.2.1, fun j c u hcj hu => ?_⟩
      rw [List.getElem?_map] at hcj
      obtain ⟨x, hx', rfl⟩ := Option.map_eq_some_iff.1 hcj
      exact .iv _ _ (hc.2.2 j x u hx' hu)
    | any => exact h1.elim
    | lit w =>
      cases hx
      have e : v.cells = #[v] := by cases v <;> first | rfl | (simp [TV.one, IV.one, Value.oneCell'] at h1)
      exact single _ _ (.iv _ _ (.lit v)) e h1 rfl
    | sl sz xs =>
      cases hx with
      | sl A _ _ c us hc' hl hsz ho hA ha h hN => exact single _ _ (.iv _ _ (.sl A sz xs c us hc' hl hsz ho hA ha h hN)) rfl rfl rfl
  | nilsl => exact single _ _ .nilsl rfl rfl rfl
  | nsl sz xs ad n c h => exact single _ _ (.nsl sz xs ad n c h) rfl rfl rfl
  | acc k sz xs hk h =>
    have e : κ.tk k = κ.tk k := rfl
    generalize hv : κ.tk k = v at h
    have h' := h
    cases h with
    | sl A _ _ c us hc hl hsz ho hA ha hh =>
      refine single _ _ ?_ rfl rfl rfl
      rw [← hv]
      exact .acc k sz xs hk (by rw [hv]; exact h')
  | bptr k off b hk h => exact single _ _ (.bptr k off b hk h) rfl rfl rfl
  | mptr k b hk h => exact single _ _ (.mptr k b hk h) rfl rfl rfl
  | mrow k A n c hk h => exact single _ _ (.mrow k A n c hk h) rfl rfl rfl
  | eptr k sz i off b n c hk h => exact single _ _ (.eptr k sz i off b n c hk h) rfl rfl rfl
  | yld k b hk h => exact single _ _ (.yld k b hk h) rfl rfl rfl
  | rptr cs ad us hl h1' ha h => exact single _ _ (.rptr cs ad us hl h1' ha h) rfl rfl rfl
  | clo f caps us hl h => exact single _ _ (.clo f caps us hl h) rfl rfl rfl
  | tup vs us hl h => exact h1.elim
  | wh b t v h => exact h1.elim

def Kx.box (κ : Kx) (C : Array Value) (ty : TypeId) : Kx :=
  ⟨κ.w.alloc (.cells C ty), κ.prot, κ.F, updF κ.tk κ.n (.pointer (some ⟨κ.w.heap.size, 0, none⟩)), κ.n + 1⟩
theorem Rel.box {N : Nat} {st : St} {a : Act} (h : Rel κ N st a) {cs : List TV} {us : Array Value} {ty : TypeId} (hc : CT κ cs us.toList) :
    Rel (κ.box us ty) N (st.new (.box ty cs)) a ∧ Ext κ (κ.box us ty) ∧ TVR (κ.box us ty) (.bptr st.nx 0) (.pointer (some ⟨κ.w.heap.size, 0, none⟩)) := by
  have he : Ext κ (κ.box us ty) := Ext.alloc h.o (.cells us ty) rfl rfl (fun a ha => ha) (fun a ha => .inl ha)
  have hb : (κ.box us ty).tk κ.n = .pointer (some ⟨κ.w.heap.size, 0, none⟩) := updF_same _ _ _
  have h1 := h.newOb (κ' := κ.box us ty) (o := .box ty cs) (ob := .cells us ty) (tv := .pointer (some ⟨κ.w.heap.size, 0, none⟩)) rfl rfl rfl rfl rfl (fun b hb => by injection hb with hb; exact hb.symm)
    ⟨κ.w.heap.size, us.toList, hb, by show (κ.w.alloc _).heap[_]? = _; rw [heap_alloc_new], hc.1, fun j c u hcj hu => (hc.2.2 j c u hcj hu).mono he (Nat.le_succ _) (fun k hk => updF_ne _ _ (by omega)), hc.2.1,
      fun hF => by have := h.o.fr _ hF; omega, fun a ha e => by have := prot_lt h.o.prot ha; omega⟩
  exact ⟨h1.1, h1.2, .bptr _ _ _ (by rw [← h.nx]; exact Nat.lt_succ_self _) (by rw [← h.nx]; exact hb)⟩

def Kx.mk_ (κ : Kx) : Kx := ⟨κ.w.alloc (.map #[] 0), κ.prot, κ.F, updF κ.tk κ.n (.map (some κ.w.heap.size)), κ.n + 1⟩
/-- A new map. -/
theorem Rel.mkmap {N : Nat} {st : St} {a : Act} (h : Rel κ N st a) {kt vt : TypeId} :
    Rel κ.mk_ N (st.new (.map kt vt [])) a ∧ Ext κ κ.mk_ ∧ TVR κ.mk_ (.mptr st.nx) (.map (some κ.w.heap.size)) := by
  have hb : κ.mk_.tk κ.n = .map (some κ.w.heap.size) := updF_same _ _ _
  have h1 := h.newOb (κ' := κ.mk_) (o := .map kt vt []) (ob := .map #[] 0) (tv := .map (some κ.w.heap.size)) rfl rfl rfl rfl rfl (fun b hb => by injection hb with hb; exact hb.symm)
    ⟨κ.w.heap.size, #[], 0, hb, by show (κ.w.alloc _).heap[_]? = _; rw [heap_alloc_new], rfl, by simp, fun hF => by have := h.o.fr _ hF; omega, fun a ha e => by have := prot_lt h.o.prot ha; omega⟩
  exact ⟨h1.1, h1.2, .mptr _ _ (by rw [← h.nx]; exact Nat.lt_succ_self _) (by rw [← h.nx]; exact hb)⟩
theorem Keep.mk_ (κ : Kx) (m : Nat) (hm : m ≤ κ.n) : Keep m κ κ.mk_ := ⟨Nat.le_succ_of_le hm, fun k hk _ => updF_ne _ _ (by omega)⟩
theorem Keep.box (κ : Kx) (C : Array Value) (ty : TypeId) (m : Nat) (hm : m ≤ κ.n) : Keep m κ (κ.box C ty) :=
  ⟨Nat.le_succ_of_le hm, fun k hk _ => updF_ne _ _ (by omega)⟩

theorem append_row {N : Nat} {st : St} {a : Act} (h : Rel κ N st a) {k sz : Nat} {xs : List IV} {e : TypeId} {v : Value} (hx : TVR κ (.acc k sz xs) v) (hl : look? st.obj k = some (.row e sz)) :
    ∃ us, κ.w.ownsRow 0 e sz v xs.length us ∧ us.length = xs.length * sz ∧ (∀ x ∈ xs, x.cells.length = sz) ∧ (∀ u ∈ us, u.oneCell' = true) ∧ (∀ (j : Nat) (x : IV) (u : Value), (xs.flatMap IV.cells)[j]? = some x → us[j]? = some u → IVR κ.w κ.prot x u) := by
  have ho := (h.o.obs k _ hl).2
  cases hx with
  | acc _ _ _ hk hi =>
    rcases ho with ho | ⟨b, n, c, cur, h1, h2, h3, h4, h5, h6, h7⟩
    · rw [ho] at hi ⊢
      generalize hv : Value.slice none 0 0 = v at hi
      cases hi with
      | sl A _ _ c us hc hl hsz ho hA ha hh =>
        simp only [Value.slice.injEq] at hv
        obtain ⟨rfl, h0, rfl⟩ := hv
        exact ⟨us, ⟨hl, .inl ⟨by rw [← h0], h0.symm⟩⟩, hl, hsz, ho, hh⟩
    · rw [h1] at hi ⊢
      generalize hv : Value.slice (some ⟨b, 0, none⟩) n c = v at hi
      cases hi with
      | sl A _ _ c' us hc hl hsz ho hA ha hh =>
        simp only [Value.slice.injEq] at hv
        obtain ⟨rfl, rfl, rfl⟩ := hv
        refine ⟨us, ⟨hl, .inr ⟨b, c, cur, rfl, Nat.zero_le _, h2, h3, h4, h5, ?_⟩⟩, hl, hsz, ho, hh⟩
        apply List.ext_getElem?
        intro j
        have hle : xs.length * sz ≤ cur.size := by rw [h5]; exact Nat.mul_le_mul_right _ h3
        by_cases hj : j < xs.length * sz
        · rw [List.getElem?_take, if_pos hj]
          have e1 : us[j]? = some (us[j]'(by omega)) := List.getElem?_eq_getElem (by omega)
          have := (ha _ rfl j _ e1).1
          rw [add_mk, Nat.zero_add, cell_of_row κ.w b j _ _ _ h2] at this
          rw [Array.getElem?_toList, this, e1]
        · rw [List.getElem?_eq_none (by simp; omega), List.getElem?_eq_none (by omega)]

theorem lens_ok {n : Nat} : ∀ (l : List IV), lens? n l → ∀ x ∈ l, x.one ∧ x.cells.length = n
  | [], _, x, hx => by cases hx
  | y :: l, h, x, hx => by
    rcases List.mem_cons.1 hx with rfl | hx
    · exact h.1
    · exact lens_ok l h.2 x hx

/-- The row behind an append. -/
theorem grown_iv {κ' : Kx} {v' : Value} {e : TypeId} {sz : Nat} {us : List Value} {xs : List IV} (hsz : 0 < sz) (hown : κ'.w.ownsRow 0 e sz v' xs.length us) (hx : ∀ x ∈ xs, x.cells.length = sz) (h1 : ∀ u ∈ us, u.oneCell' = true)
    (hp : ∀ a, v'.ownBlock = some a.block ∧ a.spot = none ∧ a.off < xs.length * sz → κ'.prot a)
    (h : ∀ (j : Nat) (x : IV) (u : Value), (xs.flatMap IV.cells)[j]? = some x → us[j]? = some u → IVR κ'.w κ'.prot x u) : IVR κ'.w κ'.prot (.sl sz xs) v' := by
  rcases hown.2 with ⟨e1, e2⟩ | ⟨g, cap, cur, e1, _, h2, h3, h4, h5, h6⟩
  · subst e1
    have hn : xs = [] := List.eq_nil_of_length_eq_zero e2
    subst hn
    exact .sl none sz [] 0 [] (Nat.le_refl _) (by simp) (by simp) (by simp) (by simp) (by simp) (by simp) (fun _ => rfl)
  · subst e1
    refine .sl _ sz xs cap us h3 hown.1 hx h1 (fun _ => ⟨_, rfl⟩) (fun ad ead j u hu => ?_) h (fun e => by cases e)
    injection ead with ead
    subst ead
    have hj : j < us.length := (List.getElem?_eq_some_iff.1 hu).1
    refine ⟨hown.cells rfl j u hu, hp _ ?_⟩
    rw [add_mk, Nat.zero_add]
    exact ⟨rfl, rfl, by have := hown.1; simp only; omega⟩

theorem append_src {N : Nat} {st st' : St} {a : Act} (h : Rel κ N st a) {t e : TypeId} {d : TD} (hd : DOK P e d) (hk : d.known = true) (hsz : 0 < d.size) {x : TV} {v : Value} (hx : TVR κ x v)
    {ys : List IV} {us : List Value} {t2 : TypeId} {u2 : Value} {ty : TypeId} (hyl : ∀ x ∈ ys, x.one ∧ x.cells.length = d.size) (hul : us.length = ys.length * d.size) (hu1 : ∀ w ∈ us, w.oneCell' = true)
    (hR : ∀ (v : Value) (n : Nat) (os : List Value), κ.w.ownsRow 0 e d.size v n os → n + ys.length ≤ maxLen → (n + ys.length) * d.bytes ≤ 140737488355328 → ∃ v' w', (Builtin.append_ #[t, t2] ty #[v, u2]).run P κ.w = .ok v' w' ∧ w'.ownsRow 0 e d.size v' (n + ys.length) (os ++ us) ∧
      ((v'.ownBlock = v.ownBlock ∧ κ.w.grownBy w' v.ownBlock) ∨ (v'.ownBlock = some κ.w.heap.size ∧ κ.w.grownBy w' none)))
    (huv : ∀ (j : Nat) (x : IV) (w : Value), (ys.flatMap IV.cells)[j]? = some x → us[j]? = some w → IVR κ.w κ.prot x w)
    {C : Prop} {r : TV} (hs : appendE st e d ys x = .ok C r st') (hC : C) :
    ∃ κ' v', (Builtin.append_ #[t, t2] ty #[v, u2]).run P κ.w = .ok v' κ'.w ∧ Rel κ' N st' a ∧ Ext κ κ' ∧ (∀ m, m ≤ κ.n → Keep m κ κ') ∧ TVR κ' r v' := by
  have hysz : ∀ x ∈ ys, x.cells.length = d.size := fun x hx => (hyl x hx).2
  unfold appendE at hs
  split at hs
  · -- nil
    simp only [Res.ok.injEq] at hs
    obtain ⟨rfl, rfl, rfl⟩ := hs
    obtain ⟨hb1, hb2, _⟩ := hC
    cases hx
    obtain ⟨v', w', hrun, hown', hg⟩ := hR (.slice none 0 0) 0 [] (World.ownsRow_nil _ _ _ _) (by simp only [maxLen]; omega) (by simpa using hb1)
    simp only [Nat.zero_add, List.nil_append] at hown'
    let κ' : Kx := ⟨w', fun a => κ.prot a ∨ (v'.ownBlock = some a.block ∧ a.spot = none ∧ a.off < ys.length * d.size), κ.F, updF κ.tk κ.n v', κ.n + 1⟩
    let κ0 : Kx := ⟨κ.w, κ.prot, κ.F, updF κ.tk κ.n (.slice none 0 0), κ.n⟩
    have h0 : Rel κ0 N st a := by
      have he : Ext κ κ0 := ⟨rfl, rfl, rfl, Nat.le_refl _, ⟨fun _ h => h, rfl⟩, fun _ _ => rfl, fun _ h => ⟨h, rfl⟩, fun _ h => .inl h⟩
      have ht : ∀ k, k < κ.n → κ0.tk k = κ.tk k := fun k hk => updF_ne _ _ (by omega)
      refine ⟨⟨fun k o hk => ?_, fun k o k' o' hk hk' hne b hb hb' => ?_, h.o.nd, h.o.prot, h.o.fr⟩, fun i => (h.env i).mono he (Nat.le_refl _) ht, h.size, dfx he h.nodef, h.nx⟩
      · obtain ⟨h1, h2⟩ := h.o.obs k o hk
        exact ⟨h1, h2.keep he (fun _ h => h) (Nat.le_refl _) ht h1 (fun _ _ => rfl) (fun a ha => .inl ha)⟩
      · rw [ht k (h.o.obs k o hk).1] at hb
        rw [ht k' (h.o.obs k' o' hk').1] at hb'
        exact h.o.dis k o k' o' hk hk' hne b hb hb'
    have hgr := Rel.grow (κ := κ0) (κ' := κ') h0 (k0 := κ.n) (by show isPtr (updF κ.tk κ.n _ κ.n) = false; rw [updF_same]; rfl) (e := e) (sz := d.size) (v := .slice none 0 0) (v' := v') (n := 0) (n' := ys.length) (us := []) (us' := us)
      (fun hlt => absurd hlt (Nat.lt_irrefl _)) (fun hlt => absurd hlt (Nat.lt_irrefl _)) (fun _ => ⟨rfl, rfl⟩) (World.ownsRow_nil _ _ _ _) hown' (by simp) (Nat.zero_le _) hg
      (by funext k; show updF κ.tk κ.n v' k = updF (updF κ.tk κ.n _) κ.n v' k; by_cases e : k = κ.n <;> simp [updF, e]) (by show κ.n + 1 = if κ.n < κ.n then _ else _; rw [if_neg (Nat.lt_irrefl _)]) rfl rfl
    have hnlt : ¬ κ.n < κ0.n := Nat.lt_irrefl _
    rw [if_neg hnlt] at hgr
    have he : Ext κ κ' := ⟨hgr.2.os, hgr.2.tape, hgr.2.output, hgr.2.size, ⟨fun _ h => h, rfl⟩, hgr.2.fr, hgr.2.prot, hgr.2.np⟩
    refine ⟨κ', v', hrun, hgr.1, he, fun m hm => ⟨Nat.le_succ_of_le hm, fun k hk _ => updF_ne _ _ (by omega)⟩, ?_⟩
    have htk : κ'.tk st.nx = v' := by rw [← h.nx]; exact updF_same _ _ _
    have hiv : IVR κ'.w κ'.prot (.sl d.size ys) v' := grown_iv hsz hown' hysz hu1 (fun a ha => .inr ha) (fun j x w hx hw => he.iv (huv j x w hx hw))
    have := TVR.acc (κ := κ') st.nx d.size ys (by rw [← h.nx]; exact Nat.lt_succ_self _) (by rw [htk]; exact hiv)
    rw [htk] at this
    exact this
  · -- onto a row
    rename_i k sz xs
    split at hs
    · rename_i e' sz' hl
      simp only [Res.ok.injEq] at hs
      obtain ⟨rfl, rfl, rfl⟩ := hs
      obtain ⟨rfl, rfl, rfl, hb1, hb2⟩ := hC
      obtain ⟨os, hown, hol, hxsz, ho1, hov⟩ := append_row h hx hl
      obtain ⟨v', w', hrun, hown', hg⟩ := hR v xs.length os hown (by simp only [maxLen]; omega) hb1
      have hkn := (h.o.obs k _ hl).1
      have hvk : v = κ.tk k := by cases hx; rfl
      let κ' : Kx := ⟨w', fun a => κ.prot a ∨ (v'.ownBlock = some a.block ∧ a.spot = none ∧ a.off < (xs.length + ys.length) * d.size), κ.F, updF κ.tk k v', κ.n⟩
      have hnp : isPtr (κ.tk k) = false := by
        rcases (h.o.obs k _ hl).2 with h0 | ⟨b, n, c, cur, h1, _⟩
        · rw [h0]; rfl
        · rw [h1]; rfl
      have hgr := Rel.grow (κ := κ) (κ' := κ') h (k0 := k) hnp (e := e') (sz := d.size) (v := v) (v' := v') (n := xs.length) (n' := xs.length + ys.length) (us := os) (us' := os ++ us)
        (fun _ => hvk.symm) (fun _ => hl) (fun hn => absurd hkn hn) hown hown' (by rw [← hol, List.drop_left]) (Nat.le_add_right _ _) hg rfl (by rw [if_pos hkn]) rfl rfl
      rw [if_pos hkn] at hgr
      refine ⟨κ', v', hrun, hgr.1, hgr.2, fun m hm => ⟨hm, fun j hj hp => ?_⟩, ?_⟩
      · refine updF_ne _ _ (fun e => ?_)
        subst e
        rw [hnp] at hp; cases hp
      · have htk : κ'.tk k = v' := updF_same _ _ _
        have hlen' : (xs ++ ys).length = xs.length + ys.length := List.length_append
        have hiv : IVR κ'.w κ'.prot (.sl d.size (xs ++ ys)) v' := by
          refine grown_iv (e := e') (us := os ++ us) hsz (by rw [hlen']; exact hown') (fun x hx => ?_) (fun w hw => (List.mem_append.1 hw).elim (ho1 w) (hu1 w)) (fun a ha => .inr (by rw [← hlen']; exact ha)) (fun j x w hxj hw => ?_)
          · exact (List.mem_append.1 hx).elim (hxsz x) (hysz x)
          · rw [List.flatMap_append] at hxj
            have hfl : (xs.flatMap IV.cells).length = os.length := by rw [flat_length xs hxsz, hol]
            by_cases hj : j < os.length
            · rw [List.getElem?_append_left hj] at hw
              rw [List.getElem?_append_left (by rw [hfl]; exact hj)] at hxj
              exact hgr.2.iv (hov j x w hxj hw)
            · rw [List.getElem?_append_right (by omega)] at hw
              rw [List.getElem?_append_right (by rw [hfl]; omega), hfl] at hxj
              exact hgr.2.iv (huv _ x w hxj hw)
        have := TVR.acc (κ := κ') k d.size (xs ++ ys) hkn (by rw [htk]; exact hiv)
        rw [htk] at this
        exact this
    · cases hs
  · -- onto a row that may be written
    rename_i k
    split at hs
    · rename_i e' sz' xs hl
      simp only [Res.ok.injEq] at hs
      obtain ⟨rfl, rfl, rfl⟩ := hs
      obtain ⟨rfl, rfl, hb1, hb2⟩ := hC
      exact append_m_ok h hd hk hsz hl hx hul hu1 hR huv hysz hb1 hb2
    · cases hs
  · cases hs
theorem append_ok {N : Nat} {st st' : St} {a : Act} (h : Rel κ N st a) {t e : TypeId} {d : TD} (hu : P.underlying t = some (.slice e)) (hd : DOK P e d) (hk : d.known = true) (hsz : 0 < d.size) {x y : TV} {v u : Value} (hx : TVR κ x v) (hy : TVR κ y u)
    {sy : Nat} {ys : List IV} (hr : y.rows = some (sy, ys)) (hlen : lens? d.size ys) {C : Prop} {r : TV} (hs : appendE st e d ys x = .ok C r st') (hC : C) (ty : TypeId) :
    ∃ κ' v', (Builtin.append_ #[t, t] ty #[v, u]).run P κ.w = .ok v' κ'.w ∧ Rel κ' N st' a ∧ Ext κ κ' ∧ (∀ m, m ≤ κ.n → Keep m κ κ') ∧ TVR κ' r v' := by
  obtain ⟨i, desc, z, hi, hue, hisz, hby, _, _, hz, hzc, _, hzl, _⟩ := hd hk
  have hzs : z.cells.size = d.size := by rw [← hzl, ← hzc]; simp
  have hrow := rows_ok hy hr
  have hyl := lens_ok ys hlen
  -- the source
  have hsrc : ∃ (A : Option Addr) (c : Nat) (us : List Value), u = .slice A ys.length c ∧ us.length = ys.length * d.size ∧ (0 < ys.length → ∃ a, A = some a) ∧ (∀ a, A = some a → ∀ j w, us[j]? = some w → κ.w.cell? (a.add j) = some w) ∧ (∀ w ∈ us, w.oneCell' = true) ∧
      (∀ (j : Nat) (x : IV) (w : Value), (ys.flatMap IV.cells)[j]? = some x → us[j]? = some w → IVR κ.w κ.prot x w) := by
    cases hrow with
    | sl A _ _ c us hc hl hszy ho hA ha hh =>
      refine ⟨A, c, us, rfl, ?_, hA, fun a e j w hw => (ha a e j w hw).1, ho, hh⟩
      cases ys with
      | nil => simpa using hl
      | cons y0 ys => rw [hl, ← hszy y0 (List.mem_cons_self ..), (hyl y0 (List.mem_cons_self ..)).2]
  obtain ⟨A, c, us, rfl, hul, hA, hac, hu1, huv⟩ := hsrc
  exact append_src h hd hk hsz hx hyl hul hu1 (fun v n os hown h1 h2 => run_append_x (P := P) κ.w t ty e i z d.size hu hi hz hisz hzs hsz v n os hown A ys.length c us hul hA hac hu1 h1 (by rw [hby]; exact h2)) huv hs hC
theorem strI_length (b : ByteArray) : (strI b).length = b.size := by rw [strI, List.length_map, Array.length_toList]; rfl
theorem appendS_ok {N : Nat} {st st' : St} {a : Act} (h : Rel κ N st a) {t e u : TypeId} {d : TD} (hu : P.underlying t = some (.slice e)) (hu2 : P.underlying u = some .string) (hd : DOK P e d) (hk : d.known = true) (hsz : d.size = 1) (hby : d.bytes = 1) (hag : d.agg = false) (hz0 : d.zero = [.int .u8 0]) {x : TV} {v : Value} (hx : TVR κ x v) (b : ByteArray)
    {C : Prop} {r : TV} (hs : appendE st e d (strI b) x = .ok C r st') (hC : C) (ty : TypeId) :
    ∃ κ' v', (Builtin.append_ #[t, u] ty #[v, .string b]).run P κ.w = .ok v' κ'.w ∧ Rel κ' N st' a ∧ Ext κ κ' ∧ (∀ m, m ≤ κ.n → Keep m κ κ') ∧ TVR κ' r v' := by
  have hd' := hd
  obtain ⟨i, desc, z, hi, hue, hisz, hiby, _, _, hz, hzc, _, hzl, _, hz1⟩ := hd hk
  have hzv : z = .int .u8 0 := by
    have := hz1 hag
    rw [hz0] at this
    injection this with this
    exact this.symm
  subst hzv
  have hsl := strI_length b
  have hcl := Lib.strCells_length b
  have hfl : (strI b).flatMap IV.cells = strI b := by
    unfold strI
    induction b.data.toList with
    | nil => rfl
    | cons c l ih => rw [List.map_cons, List.flatMap_cons, ih]; rfl
  refine append_src (us := Lib.strCells b) h hd' hk (by omega) hx (fun x hx => ?_) (by rw [hsl, hcl, hsz, Nat.mul_one]) (Lib.strCells_oneCell b) (fun v n os hown h1 h2 => ?_) (fun j x w hxj hw => ?_) hs hC
  · unfold strI at hx
    obtain ⟨c, _, rfl⟩ := List.mem_map.1 hx
    exact ⟨rfl, by rw [hsz]; rfl⟩
  · rw [hsz] at hown ⊢
    rw [hsl] at h1 h2 ⊢
    exact run_append_str κ.w t u ty e i hu hu2 hi hz (by rw [hisz, hsz]) v n os hown b h1 (by rw [hiby]; exact h2)
  · rw [hfl] at hxj
    unfold strI at hxj
    unfold Lib.strCells at hw
    rw [List.getElem?_map] at hxj hw
    cases hc : b.data.toList[j]? with
    | none => rw [hc] at hw; cases hw
    | some c =>
      rw [hc] at hxj hw
      simp only [Option.map_some, Option.some.injEq] at hxj hw
      subst hxj
      subst hw
      exact .lit _
theorem strI_flat (b : ByteArray) : (strI b).flatMap IV.cells = strI b := by
  unfold strI
  induction b.data.toList with
  | nil => rfl
  | cons c l ih => rw [List.map_cons, List.flatMap_cons, ih]; rfl
/-- The bytes of a string, in a row of their own. -/
theorem bytes_ok {N : Nat} {st : St} {a : Act} (h : Rel κ N st a) {s t e : TypeId} {us : TypeDesc} (hu : P.underlying s = some us) (ht : P.underlying t = some (.slice e)) (hue : P.underlying e = some (.int .u8)) (b : ByteArray) :
    ∃ κ' v', (convert s t (.string b)).run P κ.w = .ok v' κ'.w ∧ Rel κ' N st a ∧ Ext κ κ' ∧ (∀ m, m ≤ κ.n → Keep m κ κ') ∧ TVR κ' (.nsl 1 (strI b)) v' := by
  have hsl := strI_length b
  have hcl := Lib.strCells_length b
  have hcellv : ∀ j, j < b.size → (Lib.bytesWorld κ.w e b).cell? ⟨κ.w.heap.size, j, none⟩ = some (.int .u8 (b.data.toList.getD j 0).toNat) := fun j hj => Lib.bytesWorld_cell κ.w e b j hj
  let κ' : Kx := ⟨Lib.bytesWorld κ.w e b, fun a => κ.prot a ∨ (a.block = κ.w.heap.size ∧ a.spot = none ∧ a.off < b.size), κ.F, κ.tk, κ.n⟩
  have hb := h.newImG (κ' := κ') (n := b.size) rfl rfl rfl (by show _ ≤ (Lib.bytesWorld κ.w e b).heap.size; rw [Lib.bytesWorld_size]; omega) (fun k hk => Lib.bytesWorld_at_old κ.w e b k hk) (fun j hj => by show ((Lib.bytesWorld κ.w e b).cell? _).isSome = true; rw [hcellv j hj]; rfl) rfl rfl rfl rfl
  refine ⟨κ', _, Lib.run_convert_string_bytes κ.w s t e b hu ht hue, hb.1, hb.2, fun m hm => ⟨hm, fun _ _ _ => rfl⟩, ?_⟩
  refine .nsl _ _ _ _ _ ?_
  have hge := grownCap_ge κ.w b.size 0 e
  have hus : ∀ (j : Nat) (u : Value), (Lib.strCells b)[j]? = some u → j < b.size ∧ u = .int .u8 (b.data.toList.getD j 0).toNat := by
    intro j u hj
    unfold Lib.strCells at hj
    rw [List.getElem?_map] at hj
    cases hc : b.data.toList[j]? with
    | none => rw [hc] at hj; cases hj
    | some c =>
      rw [hc] at hj
      simp only [Option.map_some, Option.some.injEq] at hj
      subst hj
      refine ⟨?_, by rw [List.getD_eq_getElem?_getD, hc]; rfl⟩
      have := (List.getElem?_eq_some_iff.1 hc).1
      rw [Array.length_toList] at this
      exact this
  rw [← hsl]
  refine .sl _ _ _ _ (Lib.strCells b) (by rw [hsl]; exact hge) (by rw [hcl, hsl, Nat.mul_one]) (fun x hx => ?_) (Lib.strCells_oneCell b) (fun _ => ⟨_, rfl⟩) (fun ad ead j u hu => ?_) (fun j x w hxj hw => ?_) (fun e => by cases e)
  · unfold strI at hx
    obtain ⟨c, _, rfl⟩ := List.mem_map.1 hx
    rfl
  · injection ead with ead
    subst ead
    obtain ⟨q1, rfl⟩ := hus j u hu
    rw [add_mk, Nat.zero_add]
    exact ⟨hcellv j q1, .inr ⟨rfl, rfl, q1⟩⟩
  · rw [strI_flat] at hxj
    unfold strI at hxj
    unfold Lib.strCells at hw
    rw [List.getElem?_map] at hxj hw
    cases hc : b.data.toList[j]? with
    | none => rw [hc] at hw; cases hw
    | some c =>
      rw [hc] at hxj hw
      simp only [Option.map_some, Option.some.injEq] at hxj hw
      subst hxj
      subst hw
      exact .lit _
end
end Go.PL
