/- EQUALITY OF VALUES IN ONE PIECE: cell by cell. -/
import Derived.Test.YtmocgjimlhgejaaKB1
import Derived.Laws.StructEq
import Derived.ChangeKeysEq
namespace Go.PL
set_option linter.unusedSimpArgs false
set_option linter.unusedVariables false

/-- Two rows of cells of a plan, and whether they are alike. -/
inductive FitV : List LK → List Value → List Value → Bool → Prop where
  | nil : FitV [] [] [] true
  | int {p : List LK} {us vs : List Value} {r : Bool} (k : IntKind) (a b : Int) (h : FitV p us vs r) : FitV (.int :: p) (.int k a :: us) (.int k b :: vs) (a == b && r)
  | bool {p : List LK} {us vs : List Value} {r : Bool} (a b : Bool) (h : FitV p us vs r) : FitV (.bool :: p) (.bool a :: us) (.bool b :: vs) (a == b && r)
  | str {p : List LK} {us vs : List Value} {r : Bool} (a b : ByteArray) (h : FitV p us vs r) : FitV (.str :: p) (.string a :: us) (.string b :: vs) (a.toList == b.toList && r)

theorem FitV.split {q : List LK} : ∀ (p : List LK) (us vs : List Value) (r : Bool), FitV (p ++ q) us vs r →
    ∃ us1 us2 vs1 vs2 r1 r2, us = us1 ++ us2 ∧ vs = vs1 ++ vs2 ∧ us1.length = p.length ∧ vs1.length = p.length ∧ FitV p us1 vs1 r1 ∧ FitV q us2 vs2 r2 ∧ r = (r1 && r2)
  | [], us, vs, r, h => ⟨[], us, [], vs, true, r, rfl, rfl, rfl, rfl, .nil, h, by simp⟩
  | x :: p, us, vs, r, h => by
    cases h with
    | int k a b h =>
      obtain ⟨us1, us2, vs1, vs2, r1, r2, rfl, rfl, h1, h2, h3, h4, rfl⟩ := FitV.split p _ _ _ h
      exact ⟨_ :: us1, us2, _ :: vs1, vs2, _, r2, rfl, rfl, by simp [h1], by simp [h2], .int k a b h3, h4, by simp [Bool.and_assoc]⟩
    | bool a b h =>
      obtain ⟨us1, us2, vs1, vs2, r1, r2, rfl, rfl, h1, h2, h3, h4, rfl⟩ := FitV.split p _ _ _ h
      exact ⟨_ :: us1, us2, _ :: vs1, vs2, _, r2, rfl, rfl, by simp [h1], by simp [h2], .bool a b h3, h4, by simp [Bool.and_assoc]⟩
    | str a b h =>
      obtain ⟨us1, us2, vs1, vs2, r1, r2, rfl, rfl, h1, h2, h3, h4, rfl⟩ := FitV.split p _ _ _ h
      exact ⟨_ :: us1, us2, _ :: vs1, vs2, _, r2, rfl, rfl, by simp [h1], by simp [h2], .str a b h3, h4, by simp [Bool.and_assoc]⟩

section
variable {P : Program}

def planF (P : Program) (rec : TypeId → Option (List LK)) : Nat → List Field → Option (List LK)
  | _, [] => some []
  | off, f :: fs => if f.name == "_" then none else match rec f.type with
    | some p => if f.offset == off && (P.info? f.type).map (·.size) == some p.length then (planF P rec (off + p.length) fs).map (p ++ ·) else none
    | none => none
def planA (p : List LK) : Nat → List LK
  | 0 => []
  | n + 1 => p ++ planA p n
def eqPlan (P : Program) : Nat → TypeId → Option (List LK)
  | 0, _ => none
  | d + 1, t => match P.underlying t with
    | some .bool => some [.bool]
    | some (.int _) => some [.int]
    | some .string => some [.str]
    | some (.struct fs) => if P.stoodInHeld t then none else planF P (eqPlan P d) 0 fs.toList
    | some (.array n e) => match eqPlan P d e with
      | some p => if (P.info? e).map (·.size) == some p.length then some (planA p n) else none
      | none => none
    | _ => none

def aggT (P : Program) (t : TypeId) : Bool := match P.underlying t with
  | some (.struct _) | some (.array _ _) => true
  | _ => false
def valT (P : Program) (t : TypeId) (us : List Value) : Value := if aggT P t then .agg us.toArray else us.getD 0 undef

theorem run_partV {t : TypeId} {i : TypeInfo} (hi : P.info? t = some i) {desc : TypeDesc} (hu : P.underlying t = some desc) (pu us ru : List Value) (hn : us.length = i.size) (h1 : aggT P t = false → us.length = 1) (w : World) :
    (part t (pu ++ us ++ ru).toArray pu.length).run P w = .ok (valT P t us) w := by
  cases hg : aggT P t with
  | true =>
    have he : (pu ++ us ++ ru).toArray.extract pu.length (pu.length + i.size) = us.toArray := by
      apply Array.ext'
      simp [← hn, List.take_drop, List.drop_append, List.take_append]
    have ha : ∃ b, isAggD' desc = b := ⟨_, rfl⟩
    unfold valT
    rw [hg]
    unfold aggT at hg
    rw [hu] at hg
    cases desc <;> simp at hg <;> simp [part, isAgg, run_underlying hu, sizeOf, typeInfo, hi] <;> simpa using he
  | false =>
    have hl := h1 hg
    match us, hl with
    | [u], _ =>
      unfold valT
      rw [hg]
      unfold aggT at hg
      rw [hu] at hg
      cases desc <;> simp at hg <;> simp [part, isAgg, run_underlying hu]
where isAggD' : TypeDesc → Bool := fun _ => true

theorem planF_ok {d m : Nat} (ih : ∀ t p, eqPlan P d t = some p → (aggT P t = false → p.length = 1) ∧ (∃ desc, P.underlying t = some desc) ∧ ∀ us vs r, FitV p us vs r → ∀ w, (Op.equalIn (d + m) t (valT P t us) (valT P t vs)).run P w = .ok r w) :
    ∀ (fs : List Field) (pu pv us vs : List Value) (p : List LK) (r : Bool) (w : World), pu.length = pv.length → planF P (eqPlan P d) pu.length fs = some p → FitV p us vs r → (Op.eqFields (d + m) (pu ++ us).toArray (pv ++ vs).toArray fs).run P w = .ok r w
  | [], pu, pv, us, vs, p, r, w, hl, hp, hf => by
    simp only [planF, Option.some.injEq] at hp
    subst hp
    cases hf
    rfl
  | f :: fs, pu, pv, us, vs, p, r, w, hl, hp, hf => by
    simp only [planF] at hp
    split at hp
    · cases hp
    · rename_i hn
      split at hp
      · rename_i p1 hp1
        split at hp
        · rename_i hc
          simp only [Bool.and_eq_true, beq_iff_eq] at hc
          obtain ⟨p2, hp2, rfl⟩ := Option.map_eq_some_iff.1 hp
          obtain ⟨us1, us2, vs1, vs2, r1, r2, rfl, rfl, h1, h2, h3, h4, rfl⟩ := FitV.split p1 _ _ _ hf
          obtain ⟨hone, ⟨desc, hu⟩, heq⟩ := ih _ _ hp1
          obtain ⟨i, hi, hsz⟩ := Option.map_eq_some_iff.1 hc.2
          have ea := run_partV hi hu pu us1 us2 (by rw [h1, hsz]) (fun hg => by rw [h1]; exact hone hg) w
          have eb := run_partV hi hu pv vs1 vs2 (by rw [h2, hsz]) (fun hg => by rw [h2]; exact hone hg) w
          have hn' : f.name ≠ "_" := by simpa using hn
          rw [List.append_assoc] at ea eb
          simp only [Op.eqFields, hn', ne_eq, not_false_eq_true, if_true, Sem.run_bind, hc.1, ea]
          simp only [Result.andThen_ok]
          rw [hl, eb]
          simp only [Result.andThen_ok, heq us1 vs1 r1 h3 w]
          cases r1
          · simp
          · have := planF_ok ih fs (pu ++ us1) (pv ++ vs1) us2 vs2 p2 r2 w (by simp [hl, h1, h2]) (by rw [List.length_append, h1]; exact hp2) h4
            simpa using this
        · cases hp
      · cases hp

theorem planA_ok {d m : Nat} {e : TypeId} {p : List LK} (hone : aggT P e = false → p.length = 1) {desc : TypeDesc} (hu : P.underlying e = some desc) {i : TypeInfo} (hi : P.info? e = some i) (hsz : i.size = p.length) (hc : P.cellsOf e = p.length)
    (heq : ∀ us vs r, FitV p us vs r → ∀ w, (Op.equalIn (d + m) e (valT P e us) (valT P e vs)).run P w = .ok r w) :
    ∀ (n k : Nat) (pu pv us vs : List Value) (r : Bool) (w : World), pu.length = k * p.length → pv.length = k * p.length → FitV (planA p n) us vs r → (Op.eqItems (d + m) e (P.cellsOf e) (pu ++ us).toArray (pv ++ vs).toArray (List.range' k n)).run P w = .ok r w
  | 0, k, pu, pv, us, vs, r, w, hl, hl', hf => by
    cases hf
    rfl
  | n + 1, k, pu, pv, us, vs, r, w, hl, hl', hf => by
    obtain ⟨us1, us2, vs1, vs2, r1, r2, rfl, rfl, h1, h2, h3, h4, rfl⟩ := FitV.split p _ _ _ hf
    have ea := run_partV hi hu pu us1 us2 (by rw [h1, hsz]) (fun hg => by rw [h1]; exact hone hg) w
    have eb := run_partV hi hu pv vs1 vs2 (by rw [h2, hsz]) (fun hg => by rw [h2]; exact hone hg) w
    rw [List.append_assoc, hl] at ea
    rw [List.append_assoc, hl'] at eb
    simp only [List.range'_succ, Op.eqItems, Sem.run_bind, hc, ea, eb, Result.andThen_ok, heq us1 vs1 r1 h3 w]
    cases r1
    · simp
    · have := planA_ok hone hu hi hsz hc heq n (k + 1) (pu ++ us1) (pv ++ vs1) us2 vs2 r2 w (by rw [List.length_append, h1, hl, Nat.succ_mul]) (by rw [List.length_append, h2, hl', Nat.succ_mul]) h4
      rw [hc] at this
      simpa using this

theorem eqPlan_ok (m : Nat) : ∀ (d : Nat) (t : TypeId) (p : List LK), eqPlan P d t = some p → (aggT P t = false → p.length = 1) ∧ (∃ desc, P.underlying t = some desc) ∧ ∀ us vs r, FitV p us vs r → ∀ w, (Op.equalIn (d + m) t (valT P t us) (valT P t vs)).run P w = .ok r w
  | 0, t, p, h => by cases h
  | d + 1, t, p, h => by
    have ih := fun t p h => eqPlan_ok m d t p h
    rw [show d + 1 + m = (d + m) + 1 by omega]
    unfold eqPlan at h
    unfold valT aggT
    split at h
    · rename_i hu
      simp only [Option.some.injEq] at h
      subst h
      rw [hu]
      refine ⟨fun _ => rfl, ⟨_, rfl⟩, fun us vs r hf w => ?_⟩
      cases hf with
      | bool a b hf => cases hf; simpa using run_equalIn_bool' w (d + m) t a b hu
    · rename_i k0 hu
      simp only [Option.some.injEq] at h
      subst h
      rw [hu]
      refine ⟨fun _ => rfl, ⟨_, rfl⟩, fun us vs r hf w => ?_⟩
      cases hf with
      | int k a b hf => cases hf; simpa using run_equalIn_int w (d + m) t k k0 a b hu
    · rename_i hu
      simp only [Option.some.injEq] at h
      subst h
      rw [hu]
      refine ⟨fun _ => rfl, ⟨_, rfl⟩, fun us vs r hf w => ?_⟩
      cases hf with
      | str a b hf => cases hf; simpa using run_equalIn_string w (d + m) t a b hu
    · rename_i fs hu
      split at h
      · cases h
      · rename_i hst
        rw [hu]
        refine ⟨by simp, ⟨_, rfl⟩, fun us vs r hf w => ?_⟩
        have hfo : P.fieldsOf t = fs := by unfold Program.fieldsOf; rw [hu]
        have e := run_equalIn_struct w (d + m) t us.toArray vs.toArray (by rw [hfo]; exact hu) (by simpa using hst)
        simp only [if_true]
        rw [e, hfo]
        exact planF_ok ih fs.toList [] [] us vs p r w rfl h hf
    · rename_i n e hu
      split at h
      · rename_i p1 hp1
        split at h
        · rename_i hc
          simp only [beq_iff_eq] at hc
          simp only [Option.some.injEq] at h
          subst h
          obtain ⟨i, hi, hsz⟩ := Option.map_eq_some_iff.1 hc
          obtain ⟨hone, ⟨desc, hue⟩, heq⟩ := ih _ _ hp1
          rw [hu]
          refine ⟨by simp, ⟨_, rfl⟩, fun us vs r hf w => ?_⟩
          have hcell : P.cellsOf e = p1.length := by unfold Program.cellsOf; rw [hi]; exact hsz
          have ee := run_equalIn_array w (d + m) us.toArray vs.toArray hu hi
          simp only [if_true]
          rw [ee, List.range_eq_range']
          exact planA_ok hone hue hi hsz hcell heq n 0 [] [] us vs r w (by simp) (by simp) hf
        · cases h
      · cases h
    · cases h

/-- Equality of a type's values in one piece. -/
def EqOK (P : Program) (t : TypeId) (p : List LK) : Prop := P.eqGuardType P.depth t = false ∧ ∀ us vs r, FitV p us vs r → ∀ w, (Op.equalIn 10000 t (.agg us.toArray) (.agg vs.toArray)).run P w = .ok r w
theorem EqOK.mk {t : TypeId} {p : List LK} (h1 : P.eqGuardType P.depth t = false) (h2 : aggT P t = true) (h3 : eqPlan P 8 t = some p) : EqOK P t p := by
  refine ⟨h1, fun us vs r hf w => ?_⟩
  have := (eqPlan_ok 9992 8 t p h3).2.2 us vs r hf w
  unfold valT at this
  rw [h2] at this
  exact this
end
end Go.PL
