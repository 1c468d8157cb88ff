/- THE TABLE OF TYPES, AND WHAT THE EVALUATION UNFOLDS. -/
import Derived.Test.YtmocgjimlhgejaaKB11
namespace Go.PL
open Go.RowKit (Below)
set_option linter.unusedSimpArgs false
set_option linter.unusedVariables false
section
variable {P : Program}
def structOK (P : Program) (fs : Array Field) (l : List (Nat × Nat × TypeId)) : Bool :=
  fs.size == l.length && (List.range l.length).all fun i => match fs[i]? with
    | some f => f.offset == (offOf l i).1 && (P.info? f.type).map (·.size) == some (offOf l i).2.1 && f.type == (offOf l i).2.2
    | none => false
theorem KOK.struct {fs : Array Field} {l : List (Nat × Nat × TypeId)} (h : structOK P fs l = true) : KOK P (.struct fs) (.struct l) := by
  simp only [structOK, Bool.and_eq_true, beq_iff_eq, List.all_eq_true, List.mem_range] at h
  refine ⟨fs, rfl, h.1, fun i hi => ?_⟩
  have := h.2 i hi
  cases hf : fs[i]? with
  | none => rw [hf] at this; cases this
  | some f =>
    rw [hf] at this
    simp only [Bool.and_eq_true, beq_iff_eq] at this
    exact ⟨f, rfl, this.1.1, this.1.2, this.2⟩
theorem DOK.mk {t : Nat} {d : TD} {desc : TypeDesc} {z : Value} (hi : (P.info? t).map (fun i => (i.zero, i.size, i.bytes)) = some (some z, d.size, d.bytes)) (hu : P.underlying t = some desc) (hag : d.agg = isAggD desc) (hko : KOK P desc d.kind)
    (hz : z.cells.toList = d.zero) (h1 : d.zero.all Value.oneCell' = true) (hl : d.zero.length = d.size) (hq : d.plan ≠ [] → EqOK P t d.plan) (hr : d.agg = false → d.zero = [z]) : DOK P t d := by
  intro _
  obtain ⟨i, hi, he⟩ := Option.map_eq_some_iff.1 hi
  simp only [Prod.mk.injEq] at he
  exact ⟨i, desc, z, hi, hu, he.2.1, he.2.2, hag, hko, he.1, hz, fun v hv => (List.all_eq_true.1 h1) v hv, hl, hq, fun h => by rw [hr h]⟩
end
attribute [push_cast] look look? putAt St.get St.set St.put St.new St.setOb memN TV.free allFree demT demE demC demO St.dem cTV zIV TV.strip TV.pre TV.im TV.cells TV.isA TV.rows IV.one TV.one opd ox op? cmpI shI catS intI ariI cmpS cmpB eqL boolTV intTV binQ pickQ natI partI imList partT pinAt pinLook pinSet pinLoad pinStore loadQ offOf fieldAddrQ
  lookQ mapDel mapsle indexAddrS indexAddrM lenS lenM St.moved rmAt zElem envOk renE PG indexAddrQ indexQ fieldQ nilCut sliceQ appendN appendL lrObj pinObj makeR unQ convQ convB numI bytesOK appendS minI maxI lenQ fillI oxs ops? zIVs litZ zB zTVs psLt buildQ args? argsOf quiet elems ordP lens? storeE appendE step gcond gslot dstOK IV.cells
  St.le envle obsle TVle IV.leq IV.leqL TV.okN TV.ok1 keysNd cellsle enumA getsOf finR Fin' sig TV.ren1 renL TV.ren renC Ob.ren renO restO rowsOf after csOk obOk given argsle fullO ndN litL TV.lit?
attribute [push_cast] cond_true cond_false Option.map_some Option.map_none true_and and_true eq_self List.drop_zero List.drop_succ_cons List.drop_nil List.take_zero List.take_succ_cons List.take_nil List.getD_cons_zero List.getD_cons_succ List.length_cons List.length_nil List.cons_append List.nil_append
  List.append_nil List.map_cons List.map_nil List.length_map List.length_append Int.toNat_natCast Int.toNat_zero Int.toNat_one Nat.zero_mul Nat.mul_one Nat.zero_add Nat.add_zero Nat.one_mul List.set_cons_zero List.set_cons_succ List.getElem?_cons_zero List.getElem?_cons_succ List.getElem?_nil List.all_cons List.all_nil
  List.append_eq true_or or_true Bool.true_and Bool.and_true Bool.false_or Bool.or_false Bool.true_or Bool.or_true List.contains_cons List.contains_nil Option.toList_some Option.toList_none
end Go.PL
namespace Go.PL
section
variable {P : Program} {N m : Nat}
/-- A plain region with code behind it. -/
theorem PWp.sreg {id : Nat} {τ : Nat → TD} (hτ : TOK P τ) {l : List Oper} {y : Code} {Q : Exit → St → Prop} {st : St} (hd : dstOK N l = true) (h : ∀ K : St → Prop, (∀ st', PWp P N m y Q st' → K st') → wpO (PG P m) τ l l st K) :
    PWp P N m (.seq (.region id l.toArray false) y) Q st := PWp.seq (PWp.region hτ hd h)
theorem PWp.sdraw {id : Nat} {τ : Nat → TD} (hτ : TOK P τ) (hmx : P.follows .mixedOrders = true) {l : List Oper} {y : Code} {Q : Exit → St → Prop} {st : St} (hB : Region.lexB .any l.toArray = true) (hd : dstOK N l = true) (hq : allDraw l = true)
    (h : ∀ K : St → Prop, (∀ st', PWp P N m y Q st' → K st') → wpO (QG P) τ l l st K) : PWp P N m (.seq (.region id l.toArray true) y) Q st := PWp.seq (PWp.draw hτ hmx hB hd hq h)
/-- Which exits a piece of code leaves by is told as it stands. -/
theorem PWp.sskip {y : Code} {Q : Exit → St → Prop} {st : St} (h : PWp P N m y Q st) : PWp P N m (.seq .skip y) Q st := PWp.seq (PWp.skip h)
end
theorem one_int (k : IntKind) (n : Int) : ((Value.int k n).oneCell' = true) = True := by simp [Value.oneCell']
theorem one_bool (b : Bool) : ((Value.bool b).oneCell' = true) = True := by simp [Value.oneCell']
theorem one_str (s : ByteArray) : ((Value.string s).oneCell' = true) = True := by simp [Value.oneCell']
attribute [push_cast] one_int one_bool one_str
theorem getD_map {α : Type} [Inhabited α] {f : α → IV} {l : List α} {k : Nat} (h : k < l.length) : (l.map f).getD k .any = f (l.getD k default) := by
  simp [List.getD, h]
theorem wrap_id {k : IntKind} {n : Int} (h0 : k.min ≤ n) (h1 : n ≤ k.max) : k.wrap n = n := by
  cases k <;> simp [IntKind.min, IntKind.max, IntKind.signed, IntKind.bits] at h0 h1 <;> simp [IntKind.wrap, IntKind.signed, IntKind.bits] <;> (try split) <;> omega
theorem wrap64_id {n : Int} (h0 : -9223372036854775808 ≤ n) (h1 : n ≤ 9223372036854775807) : IntKind.i64.wrap n = n := wrap_id (by simpa [IntKind.min, IntKind.signed, IntKind.bits] using h0) (by simpa [IntKind.max, IntKind.signed, IntKind.bits] using h1)
end Go.PL
namespace Go.PL
theorem iteT {c : Prop} [Decidable c] {A B : Prop} (hc : c) (h : A) : if c then A else B := by rw [if_pos hc]; exact h
theorem iteF {c : Prop} [Decidable c] {A B : Prop} (hc : ¬ c) (h : B) : if c then A else B := by rw [if_neg hc]; exact h
end Go.PL
namespace Go.PL
/-! ### How the evaluation goes on: no function of what comes behind is looked into ahead of its turn -/
section
variable (G : Cal → List TV → St → (TV → St → Prop) → Prop) (τ : Nat → TD) (all l : List Oper) (K : St → Prop) (d : Option Nat)
def wpK (t : TV) (st : St) : Prop := wpO G τ all l (st.put d t) K
def wpX (st : St) : Res → Prop
  | .ok C t st' => C ∧ wpO G τ all l (st'.put d t) K
  | .call C f args => C ∧ G f args st (wpK G τ all l K d)
  | .no => False
def wpH (st : St) (o : Oper) : Option Bool → Option (Prop × TV) → Prop
  | some c, some r => (c = true → r.1 ∧ r.2.pre) ∧ wpO G τ all l (st.put o.dst (.wh c r.2.strip)) K
  | some c, none => (c = true → wpX G τ all l K o.dst st (step τ st o)) ∧ (c = false → wpO G τ all l (st.put o.dst .any) K)
  | none, _ => False
def gval (st : St) (want : Bool) : Option Nat → Option Bool
  | some d => gcond (st.get d) want
  | none => none
def wpG (st : St) (o : Oper) : Option (Nat × Bool) → Prop
  | none => wpX G τ all l K o.dst st (step τ st o)
  | some (j, want) => wpH G τ all l K st o (gval st want (gslot all j)) (quiet τ st o.op)
theorem wpO_nil (st : St) : wpO G τ all [] st K = K st := rfl
theorem wpO_cons (st : St) (o : Oper) : wpO G τ all (o :: l) st K = wpG G τ all l K st o o.guard := by
  simp only [wpO]
  cases o.guard with
  | none =>
    simp only [exO, wpG]
    cases step τ st o <;> rfl
  | some p =>
    obtain ⟨j, want⟩ := p
    simp only [exO, wpG]
    cases gslot all j with
    | none => rfl
    | some d =>
      simp only [gval]
      cases gcond (st.get d) want with
      | none => rfl
      | some c =>
        cases quiet τ st o.op with
        | some r => rfl
        | none =>
          simp only [wpH]
          cases step τ st o <;> rfl
theorem wpX_ok (st st' : St) (C : Prop) (t : TV) : wpX G τ all l K d st (.ok C t st') = (C ∧ wpO G τ all l (st'.put d t) K) := rfl
theorem wpX_call (st : St) (C : Prop) (f : Cal) (args : List TV) : wpX G τ all l K d st (.call C f args) = (C ∧ G f args st (wpK G τ all l K d)) := rfl
theorem wpX_no (st : St) : wpX G τ all l K d st .no = False := rfl
theorem wpG_none (st : St) (o : Oper) : wpG G τ all l K st o none = wpX G τ all l K o.dst st (step τ st o) := rfl
theorem wpG_some (st : St) (o : Oper) (j : Nat) (want : Bool) : wpG G τ all l K st o (some (j, want)) = wpH G τ all l K st o (gval st want (gslot all j)) (quiet τ st o.op) := rfl
theorem wpH_q (st : St) (o : Oper) (c : Bool) (r : Prop × TV) : wpH G τ all l K st o (some c) (some r) = ((c = true → r.1 ∧ r.2.pre) ∧ wpO G τ all l (st.put o.dst (.wh c r.2.strip)) K) := rfl
theorem wpH_x (st : St) (o : Oper) (c : Bool) : wpH G τ all l K st o (some c) none = ((c = true → wpX G τ all l K o.dst st (step τ st o)) ∧ (c = false → wpO G τ all l (st.put o.dst .any) K)) := rfl
end
end Go.PL
attribute [push_cast] Go.PL.wpO_nil Go.PL.wpO_cons Go.PL.wpX_ok Go.PL.wpX_call Go.PL.wpX_no Go.PL.wpG_none Go.PL.wpG_some Go.PL.wpH_q Go.PL.wpH_x Go.PL.wpK Go.PL.gval
