/- QUIET OPERATIONS, ALL OF THEM. -/
import Derived.Test.YtmocgjimlhgejaaKB3
namespace Go.PL
open Go.RowKit (Below)
set_option linter.unusedSimpArgs false
set_option linter.unusedVariables false
section
variable {P : Program} {κ : Kx}

theorem pickQ_ok {c a b : TV} {x y : Operand} {act : Act} {vc : Value} (hc : TVR κ c vc) (ha : TVR κ a (act.eval x)) (hb : TVR κ b (act.eval y)) {C : Prop} {r : TV} (hq : pickQ c a b x y = some (C, r)) (hC : C) (hpre : c.pre) :
    ∃ u, (∀ w' : World, (do pure (if ← asBool vc then act.eval x else act.eval y) : Sem Value).run P w' = .ok u w') ∧ TVR κ r u := by
  unfold pickQ at hq
  have hs := hc.strip hpre
  split at hq
  · rename_i cb hcs
    rw [hcs] at hs
    obtain rfl := ivlit hs
    split at hq
    · split at hq
      · rename_i v hbs
        simp only [Option.some.injEq, Prod.mk.injEq] at hq
        obtain ⟨rfl, rfl⟩ := hq
        cases cb
        · have hs2 := hb.strip (hC rfl)
          rw [hbs] at hs2
          have e := ivlit hs2
          exact ⟨.bool v, fun w' => by simp [asBool, e], .iv _ _ (.lit _)⟩
        · exact ⟨.bool true, fun w' => by simp [asBool, Act.eval], .iv _ _ (.lit _)⟩
      · simp only [Option.some.injEq, Prod.mk.injEq] at hq
        obtain ⟨rfl, rfl⟩ := hq
        subst hC
        exact ⟨.bool true, fun w' => by simp [asBool, Act.eval], .iv _ _ (.lit _)⟩
    · split at hq
      · split at hq
        · rename_i v has
          simp only [Option.some.injEq, Prod.mk.injEq] at hq
          obtain ⟨rfl, rfl⟩ := hq
          cases cb
          · exact ⟨.bool false, fun w' => by simp [asBool, Act.eval], .iv _ _ (.lit _)⟩
          · have hs2 := ha.strip (hC rfl)
            rw [has] at hs2
            have e := ivlit hs2
            exact ⟨.bool v, fun w' => by simp [asBool, e], .iv _ _ (.lit _)⟩
        · simp only [Option.some.injEq, Prod.mk.injEq] at hq
          obtain ⟨rfl, rfl⟩ := hq
          subst hC
          exact ⟨.bool false, fun w' => by simp [asBool, Act.eval], .iv _ _ (.lit _)⟩
      · cases hq
  · cases hq

/-- Operands, one by one. -/
theorem args_ok {N : Nat} {st : St} {a : Act} (h : Rel κ N st a) : ∀ (l : List Operand), args? st l → ∀ (j : Nat) (t : TV) (v : Value), (argsOf st l)[j]? = some t → (l.map a.eval)[j]? = some v → TVR κ t v
  | [], _, j, t, v, ht, _ => by simp [argsOf] at ht
  | x :: l, hp, 0, t, v, ht, hv => by
    simp only [argsOf, List.getElem?_cons_zero, Option.some.injEq] at ht
    simp only [List.map_cons, List.getElem?_cons_zero, Option.some.injEq] at hv
    subst ht; subst hv
    exact h.ox hp.1
  | x :: l, hp, j + 1, t, v, ht, hv => by
    simp only [argsOf, List.getElem?_cons_succ] at ht
    simp only [List.map_cons, List.getElem?_cons_succ] at hv
    exact args_ok h l hp.2 j t v ht hv
theorem argsOf_length (st : St) : ∀ (l : List Operand), (argsOf st l).length = l.length
  | [] => rfl
  | x :: l => by simp [argsOf, argsOf_length st l]

theorem minI_ok {ts : List TV} {vs : List Value} (hl : vs.length = ts.length) (h : ∀ (j : Nat) (t : TV) (v : Value), ts[j]? = some t → vs[j]? = some v → TVR κ t v) {n : Int} (hq : minI ts = some n) (tys : Array TypeId) (ty : TypeId) (w' : World) :
    (Builtin.min_ tys ty vs.toArray).run P w' = .ok (.int .i64 n) w' := by
  unfold minI at hq
  split at hq
  · cases hq
  · match vs, hl with
    | [v], _ =>
      have e := natI_ok (h 0 _ _ rfl rfl) hq
      simp [Builtin.min_, e]
  · match vs, hl with
    | [v, u], _ =>
      split at hq
      · rename_i a b ha hb
        have e := natI_ok (h 0 _ _ rfl rfl) ha
        have e2 := natI_ok (h 1 _ _ rfl rfl) hb
        simp only [Option.some.injEq] at hq
        subst hq
        simp [Builtin.min_, Builtin.min2, e, e2, mn]
      · cases hq
  · match vs, hl with
    | [v, u, x], _ =>
      split at hq
      · rename_i a b c ha hb hc
        have e := natI_ok (h 0 _ _ rfl rfl) ha
        have e2 := natI_ok (h 1 _ _ rfl rfl) hb
        have e3 := natI_ok (h 2 _ _ rfl rfl) hc
        simp only [Option.some.injEq] at hq
        subst hq
        simp [Builtin.min_, Builtin.min2, e, e2, e3, mn]
        rfl
      · cases hq
  · cases hq
theorem maxI_ok {ts : List TV} {vs : List Value} (hl : vs.length = ts.length) (h : ∀ (j : Nat) (t : TV) (v : Value), ts[j]? = some t → vs[j]? = some v → TVR κ t v) {n : Int} (hq : maxI ts = some n) (tys : Array TypeId) (ty : TypeId) (w' : World) :
    (Builtin.max_ tys ty vs.toArray).run P w' = .ok (.int .i64 n) w' := by
  unfold maxI at hq
  split at hq
  · cases hq
  · match vs, hl with
    | [v], _ =>
      have e := natI_ok (h 0 _ _ rfl rfl) hq
      simp [Builtin.max_, e]
  · match vs, hl with
    | [v, u], _ =>
      split at hq
      · rename_i a b ha hb
        have e := natI_ok (h 0 _ _ rfl rfl) ha
        have e2 := natI_ok (h 1 _ _ rfl rfl) hb
        simp only [Option.some.injEq] at hq
        subst hq
        simp [Builtin.max_, Builtin.max2, e, e2, mx]
      · cases hq
  · match vs, hl with
    | [v, u, x], _ =>
      split at hq
      · rename_i a b c ha hb hc
        have e := natI_ok (h 0 _ _ rfl rfl) ha
        have e2 := natI_ok (h 1 _ _ rfl rfl) hb
        have e3 := natI_ok (h 2 _ _ rfl rfl) hc
        simp only [Option.some.injEq] at hq
        subst hq
        simp [Builtin.max_, Builtin.max2, e, e2, e3, mx]
        rfl
      · cases hq
  · cases hq

/-- A bound, read off. -/
theorem bound_ok {v : Value} {n : Int} (h : v = .int .i64 n) (y : Nat) (h0 : 0 ≤ n) (h1 : n ≤ y) (code : BoundsCode) (w' : World) : (Instr.sliceBound v y code).run P w' = .ok n.toNat w' := by
  subst h
  simp [Instr.sliceBound, asIntOf, h0, h1]

theorem sliceI_ok {w : World} {prot : Addr → Prop} {sz : Nat} {xs : List IV} {A : Option Addr} {c : Nat} (h : IVR w prot (.sl sz xs) (.slice A xs.length c)) {l hh m : Nat} (h1 : l ≤ hh) (h2 : hh ≤ xs.length) (h3 : hh ≤ m) (h4 : m ≤ c) :
    IVR w prot (.sl sz ((xs.take hh).drop l)) (.slice (if m = l then A else A.map (·.add (l * sz))) (hh - l) (m - l)) := by
  generalize hv : Value.slice A xs.length c = v at h
  cases h with
  | sl A' _ _ c' us hc hl hszx hone hA ha hcell hN =>
    simp only [Value.slice.injEq] at hv
    obtain ⟨rfl, _, rfl⟩ := hv
    have hlen : ((xs.take hh).drop l).length = hh - l := by rw [List.length_drop, List.length_take]; omega
    have hx' : ∀ x ∈ (xs.take hh), x.cells.length = sz := fun x hx => hszx x (List.mem_of_mem_take hx)
    have hx'' : ∀ x ∈ ((xs.take hh).drop l), x.cells.length = sz := fun x hx => hx' x (List.mem_of_mem_drop hx)
    have hfl : ((xs.take hh).drop l).flatMap IV.cells = ((xs.flatMap IV.cells).take (hh * sz)).drop (l * sz) := by rw [flat_drop l _ hx', flat_take hh _ hszx]
    rw [← hlen]
    refine .sl _ sz _ (m - l) ((us.take (hh * sz)).drop (l * sz)) (by rw [hlen]; omega) ?_ hx'' (fun u hu => hone u (List.mem_of_mem_take (List.mem_of_mem_drop hu))) (fun hp => ?_) (fun ad e j u hu => ?_) (fun j x u hx hu => ?_) (fun e => ?_)
    · have hm : hh * sz ≤ us.length := by rw [hl]; exact Nat.mul_le_mul_right _ h2
      rw [hlen, List.length_drop, List.length_take, Nat.min_eq_left hm, Nat.sub_mul]
    · rw [hlen] at hp
      obtain ⟨ad, rfl⟩ := hA (by omega)
      split
      · exact ⟨_, rfl⟩
      · exact ⟨_, rfl⟩
    · rw [List.getElem?_drop, List.getElem?_take] at hu
      split at hu
      · rename_i hlt
        have hne : ¬ m = l := by
          intro e
          have hle : hh = l := by omega
          subst hle
          omega
        rw [if_neg hne] at e
        cases A with
        | none => cases e
        | some a0 =>
          simp only [Option.map_some, Option.some.injEq] at e
          subst e
          rw [add_add_]
          exact ha a0 rfl _ _ hu
      · cases hu
    · rw [hfl, List.getElem?_drop, List.getElem?_take] at hx
      rw [List.getElem?_drop, List.getElem?_take] at hu
      split at hu
      · rw [if_pos (by assumption)] at hx
        exact hcell _ _ _ hx hu
      · cases hu
    · have : A = none := by
        split at e
        · exact e
        · cases A with
          | none => rfl
          | some a0 => cases e
      have := hN this
      omega

theorem optI {o : Option Operand} {st : St} {N : Nat} {a : Act} (h : Rel κ N st a) (hp : args? st o.toList) {d n : Int} (hn : (match o.map (ox st) with | none => some d | some t => natI t) = some n) :
    (o = none ∧ n = d) ∨ ∃ x, o = some x ∧ a.eval x = .int .i64 n := by
  cases o with
  | none => simp at hn; exact .inl ⟨rfl, hn.symm⟩
  | some x => exact .inr ⟨x, rfl, natI_ok (h.ox hp.1) hn⟩

theorem args_app {st : St} : ∀ (l k : List Operand), args? st (l ++ k) → args? st l ∧ args? st k
  | [], k, h => ⟨trivial, h⟩
  | x :: l, k, h => ⟨⟨h.1, (args_app l k h.2).1⟩, (args_app l k h.2).2⟩

theorem slice_ok {τ : Nat → TD} (hτ : TOK P τ) {N : Nat} {st : St} {a : Act} (h : Rel κ N st a) {t : TypeId} (hk : (τ t).known = true) {x : Operand} {lo hi m : Option Operand} (hp : args? st (x :: (lo.toList ++ hi.toList ++ m.toList)))
    {C : Prop} {r : TV} (hq : sliceQ τ (τ t) (ox st x) (lo.map (ox st)) (hi.map (ox st)) (m.map (ox st)) = some (C, r)) (hC : C) :
    ∃ u, (∀ w' : World, (Instr.sliceAt t (a.eval x) (lo.map a.eval) (hi.map a.eval) (m.map a.eval)).run P w' = .ok u w') ∧ TVR κ r u := by
  obtain ⟨i, desc, z, hi', hu, hsz, _, hag, hko, _⟩ := hτ t hk
  have hx := h.ox hp.1
  obtain ⟨hp1, hpm⟩ := args_app _ _ hp.2
  obtain ⟨hpl, hph⟩ := args_app _ _ hp1
  unfold sliceQ at hq
  split at hq
  · rename_i s hkd heq
    rw [hkd] at hko
    simp only [KOK] at hko
    subst hko
    rw [heq] at hx
    have ex := ivlit hx
    split at hq
    · rename_i ln hn hl hh hm
      simp only [Option.some.injEq, Prod.mk.injEq] at hq
      obtain ⟨rfl, rfl⟩ := hq
      obtain ⟨c0, c1, c2⟩ := hC
      have hm0 : m = none := by cases m <;> simp at hm ⊢
      subst hm0
      have hL := optI h hpl hl
      have hH := optI h hph hh
      refine ⟨.string (s.extract ln.toNat hn.toNat), fun w' => ?_, .iv _ _ (.lit _)⟩
      rcases hL with ⟨rfl, rfl⟩ | ⟨xl, rfl, el⟩ <;> rcases hH with ⟨rfl, rfl⟩ | ⟨xh, rfl, eh⟩
      · simp [Instr.sliceAt, Instr.slice, run_underlying hu, ex, Instr.sliceBounds]
      · have b2 := bound_ok (P := P) eh s.size (by omega) c2 .sliceAlen w'
        simp [Instr.sliceAt, Instr.slice, run_underlying hu, ex, Instr.sliceBounds, b2]
      · have b1 := bound_ok (P := P) el s.size c0 c1 .sliceB w'
        simp [Instr.sliceAt, Instr.slice, run_underlying hu, ex, Instr.sliceBounds, b1]
      · have b2 := bound_ok (P := P) eh s.size (by omega) c2 .sliceAlen w'
        have b1 := bound_ok (P := P) el hn.toNat c0 (by omega) .sliceB w'
        simp [Instr.sliceAt, Instr.slice, run_underlying hu, ex, Instr.sliceBounds, b2, b1]
    · cases hq
  · rename_i x' e hkd
    rw [hkd] at hko
    simp only [KOK] at hko
    subst hko
    split at hq
    · rename_i r0 hnc
      simp only [Option.some.injEq] at hq
      subst hq
      unfold nilCut at hnc
      split at hnc
      · rename_i hnil
        split at hnc
        · rename_i th hlo hhi hmx
          split at hnc
          · rename_i hn hnat
            simp only [Option.some.injEq, Prod.mk.injEq] at hnc
            obtain ⟨rfl, rfl⟩ := hnc
            obtain ⟨hke, rfl⟩ := hC
            obtain ⟨ie, de, ze, hie, hue, hsze, _⟩ := hτ e hke
            rw [hnil] at hx
            have ex : a.eval x = .slice none 0 0 := by
              generalize a.eval x = v at hx
              cases hx; rfl
            have hlo0 : lo = none := by cases lo <;> simp at hlo ⊢
            have hm0 : m = none := by cases m <;> simp at hmx ⊢
            subst hlo0; subst hm0
            cases hi with
            | none => simp at hhi
            | some y =>
              simp only [Option.map_some, Option.some.injEq] at hhi
              subst hhi
              have ey := natI_ok (h.ox hph.1) hnat
              refine ⟨.slice none 0 0, fun w' => ?_, .nilsl⟩
              have b2 := bound_ok (P := P) ey 0 (Int.le_refl _) (Int.le_refl _) .sliceAcap w'
              simp [Instr.sliceAt, Instr.slice, run_underlying hu, ex, Instr.sliceBounds, sizeOf, typeInfo, hie, b2]
          · cases hnc
        · cases hnc
      · cases hnc
    split at hq
    · rename_i sz xs hr
      split at hq
      · rename_i ln hn mn hl hh hm
        simp only [Option.some.injEq, Prod.mk.injEq] at hq
        obtain ⟨rfl, rfl⟩ := hq
        obtain ⟨⟨hke, hszz, hmh⟩, c0, c1, c2, c3⟩ := hC
        obtain ⟨ie, de, ze, hie, hue, hsze, _⟩ := hτ e hke
        have hrow := rows_ok hx hr
        have hform : ∃ A c, a.eval x = .slice A xs.length c ∧ xs.length ≤ c := by
          generalize a.eval x = v at hrow
          cases hrow with
          | sl A sz xs c us hc _ _ _ _ _ _ => exact ⟨A, c, rfl, hc⟩
        obtain ⟨A, c, ex, hxc⟩ := hform
        rw [ex] at hrow
        have hL := optI h hpl hl
        have hH := optI h hph hh
        have hM := optI h hpm hm
        have hmul : ln.toNat * ie.size = ln.toNat * sz := by
          rcases hszz with e1 | e1
          · rw [hsze, e1]
          · subst e1
            have : ln.toNat = 0 := by simp at c3; omega
            rw [this]; simp
        have main : ∀ m' : Nat, hn.toNat ≤ m' → m' ≤ c → TVR κ (.iv (.sl sz ((xs.take hn.toNat).drop ln.toNat))) (.slice (if m' = ln.toNat then A else A.map (·.add (ln.toNat * sz))) (hn.toNat - ln.toNat) (m' - ln.toNat)) :=
          fun m' h3 h4 => .iv _ _ (sliceI_ok hrow (by omega) (by omega) h3 h4)
        rcases hM with ⟨rfl, rfl⟩ | ⟨xm, rfl, em⟩
        · refine ⟨_, fun w' => ?_, main c (by omega) (Nat.le_refl _)⟩
          rcases hL with ⟨rfl, rfl⟩ | ⟨xl, rfl, el⟩ <;> rcases hH with ⟨rfl, rfl⟩ | ⟨xh, rfl, eh⟩
          · simp [Instr.sliceAt, Instr.slice, run_underlying hu, ex, Instr.sliceBounds, sizeOf, typeInfo, hie]
          · have b2 := bound_ok (P := P) eh c (by omega) (by omega) .sliceAcap w'
            simp [Instr.sliceAt, Instr.slice, run_underlying hu, ex, Instr.sliceBounds, sizeOf, typeInfo, hie, b2]
          · have b1 := bound_ok (P := P) el xs.length c0 (by omega) .sliceB w'
            simp [Instr.sliceAt, Instr.slice, run_underlying hu, ex, Instr.sliceBounds, sizeOf, typeInfo, hie, b1, hmul]
          · have b2 := bound_ok (P := P) eh c (by omega) (by omega) .sliceAcap w'
            have b1 := bound_ok (P := P) el hn.toNat c0 (by omega) .sliceB w'
            simp [Instr.sliceAt, Instr.slice, run_underlying hu, ex, Instr.sliceBounds, sizeOf, typeInfo, hie, b2, b1, hmul]
        · refine ⟨_, fun w' => ?_, main mn.toNat (by omega) (by omega)⟩
          have b3 := bound_ok (P := P) em c (by omega) (by omega) .slice3Acap w'
          rcases hH with ⟨rfl, rfl⟩ | ⟨xh, rfl, eh⟩
          · simp at hmh
          · have b2 := bound_ok (P := P) eh mn.toNat (by omega) (by omega) .slice3B w'
            rcases hL with ⟨rfl, rfl⟩ | ⟨xl, rfl, el⟩
            · simp [Instr.sliceAt, Instr.slice, run_underlying hu, ex, Instr.sliceBounds, sizeOf, typeInfo, hie, b2, b3]
            · have b1 := bound_ok (P := P) el hn.toNat c0 (by omega) .slice3C w'
              simp [Instr.sliceAt, Instr.slice, run_underlying hu, ex, Instr.sliceBounds, sizeOf, typeInfo, hie, b2, b3, b1, hmul]
      · cases hq
    · cases hq
  · cases hq
end
end Go.PL
