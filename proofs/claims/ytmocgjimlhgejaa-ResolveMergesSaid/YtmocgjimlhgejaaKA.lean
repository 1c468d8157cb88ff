/- A LOGIC OVER VALUES: pure values, a pure state, and what an operation makes of it. Definitions alone. -/
import Derived.Tactics
import Derived.Deep.Quiet
import Derived.Laws.AppendOwn
import Derived.Below
import Derived.KernelRfl
namespace Go.PL

/-- Immutable values: slices carry what they hold. -/
inductive IV where
  | any
  | lit (v : Value)
  | agg (cs : List IV)
  | sl (sz : Nat) (xs : List IV)
  deriving Inhabited

def IV.cells : IV → List IV
  | .agg cs => cs
  | x => [x]

/-- What a slot, or a cell of a variable of the call's own, holds. -/
inductive TV where
  | any
  | iv (x : IV)
  | nilsl
  | nsl (sz : Nat) (xs : List IV)
  | acc (k sz : Nat) (xs : List IV)
  | bptr (k off : Nat)
  | mptr (k : Nat)
  | rptr (cs : List IV)
  | clo (f : FuncId) (caps : List TV)
  | mrow (k : Nat)
  | eptr (k sz i off : Nat)
  | yld (k : Nat)
  | tup (vs : List TV)
  | wh (b : Bool) (t : TV)
  deriving Inhabited

/-- Objects of the call's own: variables in memory, and rows that may grow. -/
inductive Ob where
  | box (ty : TypeId) (cs : List TV)
  | row (e : TypeId) (sz : Nat)
  | map (kt vt : TypeId) (es : List (Int × TV))
  | mrow (e : TypeId) (sz : Nat) (xs : List IV)
  | lp (s : Nat) (ps : List Nat) (assign body : Code) (env : List (Nat × TV))
  | pins (e : TypeId) (rs : List (Nat × List IV))
  | lrow (e : TypeId) (sz : Nat) (v : Value) (xs : List IV)
  deriving Inhabited

structure St where
  env : List (Nat × TV)
  obj : List (Nat × Ob)
  nx : Nat

def look {α : Type} (d : α) : List (Nat × α) → Nat → α
  | [], _ => d
  | (j, t) :: l, i => bif i == j then t else look d l i

def look? {α : Type} : List (Nat × α) → Nat → Option α
  | [], _ => none
  | (j, t) :: l, i => bif i == j then some t else look? l i

def putAt {α : Type} : List (Nat × α) → Nat → α → List (Nat × α)
  | [], _, _ => []
  | (j, t) :: l, i, u => bif i == j then (j, u) :: l else (j, t) :: putAt l i u

def St.get (st : St) (i : Nat) : TV := look .any st.env i
def St.set (st : St) (i : Nat) (t : TV) : St := ⟨(i, t) :: st.env, st.obj, st.nx⟩
def St.put (st : St) : Option Nat → TV → St
  | none, _ => st
  | some i, t => st.set i t
/-- A new object. -/
def St.new (st : St) (o : Ob) : St := ⟨st.env, (st.nx, o) :: st.obj, st.nx + 1⟩
def St.setOb (st : St) (k : Nat) (o : Ob) : St := ⟨st.env, putAt st.obj k o, st.nx⟩

def memN (j : Nat) : List Nat → Bool
  | [] => false
  | k :: l => bif j == k then true else memN j l
/-- A plain value that is none of some rows. -/
def TV.free (S : List Nat) : TV → Bool
  | .acc j _ _ => !memN j S
  | .clo _ _ => false
  | .tup _ => false
  | .wh _ _ => false
  | _ => true
def allFree (S : List Nat) : List TV → Bool
  | [] => true
  | t :: l => bif t.free S then allFree S l else false
/-- Rows have grown: what held them before is an immutable slice from here on. -/
def demT (S : List Nat) : TV → TV
  | .acc j sz xs => bif memN j S then .iv (.sl sz xs) else .acc j sz xs
  | .clo g cs => bif allFree S cs then .clo g cs else .any
  | .tup cs => bif allFree S cs then .tup cs else .any
  | .wh b t => bif t.free S then .wh b t else .any
  | t => t
def demE {α : Type} (S : List Nat) : List (α × TV) → List (α × TV)
  | [] => []
  | (i, t) :: l => (i, demT S t) :: demE S l
def demC (S : List Nat) : List TV → List TV
  | [] => []
  | t :: l => demT S t :: demC S l
def demO (S : List Nat) : List (Nat × Ob) → List (Nat × Ob)
  | [] => []
  | (i, .box ty cs) :: l => (i, .box ty (demC S cs)) :: demO S l
  | (i, .lp s ps a b env) :: l => (i, .lp s ps a b (demE S env)) :: demO S l
  | (i, .map kt vt es) :: l => (i, .map kt vt (demE S es)) :: demO S l
  | x :: l => x :: demO S l
def St.dem (st : St) (k : Nat) : St := ⟨demE [k] st.env, demO [k] st.obj, st.nx⟩

/-- A value of one cell. -/
def IV.one : IV → Prop
  | .lit v => v.oneCell' = true
  | .sl _ _ => True
  | .agg _ => True
  | .any => False
def TV.one : TV → Prop
  | .iv x => x.one
  | .nilsl => True
  | .nsl _ _ => True
  | .acc _ _ _ => True
  | .bptr _ _ => True
  | .mptr _ => True
  | .rptr _ => True
  | .clo _ _ => True
  | .mrow _ => True
  | .eptr _ _ _ _ => True
  | .yld _ => True
  | _ => False
/-- What is known of a type. -/
inductive TK where
  | bool | int (k : IntKind) | str | slice (e : TypeId) | map (k v : TypeId) | arr (n : Nat) (e : TypeId) | struct (offs : List (Nat × Nat × TypeId)) | other
instance : Inhabited TK := ⟨.other⟩
/-- Kinds of cells that can be compared one by one. -/
inductive LK where
  | int | bool | str
def eqL : List LK → List IV → List IV → Option (Prop × Bool)
  | [], [], [] => some (True, true)
  | .int :: p, .lit (.int k a) :: xs, .lit (.int k' b) :: ys => (eqL p xs ys).map fun r => (k = k' ∧ r.1, a == b && r.2)
  | .bool :: p, .lit (.bool a) :: xs, .lit (.bool b) :: ys => (eqL p xs ys).map fun r => (r.1, a == b && r.2)
  | .str :: p, .lit (.string a) :: xs, .lit (.string b) :: ys => (eqL p xs ys).map fun r => (r.1, a.toList == b.toList && r.2)
  | _, _, _ => none
structure TD where
  kind : TK
  agg : Bool
  size : Nat
  bytes : Nat
  zero : List Value
  known : Bool := true
  plan : List LK := []
instance : Inhabited TD := ⟨⟨.other, false, 0, 0, [], false, []⟩⟩

def cTV : Value → TV
  | .slice none 0 0 => .nilsl
  | v => .iv (.lit v)
/-- A cell's zero value, as an immutable one. -/
def zIV : Value → IV
  | .slice none 0 0 => .sl 0 []
  | v => .lit v

def TV.strip : TV → TV
  | .wh _ t => t
  | t => t
def TV.pre : TV → Prop
  | .wh b _ => b = true
  | _ => True
/-- What a slot's value is as an immutable one. -/
def TV.im : TV → IV
  | .iv x => x
  | .nilsl => .sl 0 []
  | .nsl sz xs => .sl sz xs
  | .acc _ sz xs => .sl sz xs
  | _ => .any
def TV.cells : TV → List TV
  | .iv (.agg cs) => cs.map .iv
  | t => [t]
def TV.isA : TV → Bool
  | .iv (.agg _) => true
  | _ => false
def TV.rows : TV → Option (Nat × List IV)
  | .nilsl => some (0, [])
  | .nsl sz xs => some (sz, xs)
  | .acc _ sz xs => some (sz, xs)
  | .iv (.sl sz xs) => some (sz, xs)
  | _ => none

def opd (st : St) : Operand → TV
  | .tmp i => st.get i
  | .const v => cTV v
  | .func f => .clo f []
  | .global _ => .any
/-- Operands: what they hold, a guard put aside, and what has to hold for that. -/
def ox (st : St) (x : Operand) : TV := (opd st x).strip
def op? (st : St) (x : Operand) : Prop := (opd st x).pre

/-- What is called: a function, or a loop's body. -/
inductive Cal where
  | fn (f : FuncId)
  | yl (k : Nat)
  | ct (k : Nat) (o : Ob)
  | pn (K : Nat) (e : TypeId) (rs : List (Nat × List IV)) (xs : List IV)
  | la (k : Nat) (e : TypeId) (sz : Nat) (xs : List IV)
inductive Res where
  | ok (C : Prop) (t : TV) (st : St)
  | call (C : Prop) (f : Cal) (args : List TV)
  | no

def cmpI : BinOp → Int → Int → Option Bool
  | .eql, a, b => some (a == b)
  | .neq, a, b => some (a != b)
  | .lss, a, b => some (decide (a < b))
  | .leq, a, b => some (decide (a ≤ b))
  | .gtr, a, b => some (decide (a > b))
  | .geq, a, b => some (decide (a ≥ b))
  | _, _, _ => none
def ariI (k : IntKind) : BinOp → Int → Int → Option Int
  | .add, a, b => some (k.wrap (a + b))
  | .sub, a, b => some (k.wrap (a - b))
  | .mul, a, b => some (k.wrap (a * b))
  | _, _, _ => none
/-- Shifts, and remainders. -/
def shI (k k' : IntKind) : BinOp → Int → Int → Option (Prop × Int)
  | .shr, a, b => some (0 ≤ b, a.fdiv (2 ^ (min b.toNat k.bits)))
  | .quo, a, b => some (k = k' ∧ b ≠ 0, k.wrap (a.tdiv b))
  | .rem, a, b => some (k = k' ∧ b ≠ 0, a.tmod b)
  | _, _, _ => none
def cmpS : BinOp → ByteArray → ByteArray → Option Bool
  | .eql, a, b => some (a.toList == b.toList)
  | .neq, a, b => some (!(a.toList == b.toList))
  | _, _, _ => none
def catS : BinOp → ByteArray → ByteArray → Option (Prop × ByteArray)
  | .add, a, b => some ((a.size + b.size : Nat) ≤ (9223372036854775807 : Int), a ++ b)
  | _, _, _ => none
def cmpB : BinOp → Bool → Bool → Option Bool
  | .eql, a, b => some (a == b)
  | .neq, a, b => some (!(a == b))
  | _, _, _ => none
def boolTV (b : Bool) : TV := .iv (.lit (.bool b))
def intTV (k : IntKind) (n : Int) : TV := .iv (.lit (.int k n))
def binQ (op : BinOp) (d : TD) : TV → TV → Option (Prop × TV)
  | .iv (.lit (.int k a)), .iv (.lit (.int k' b)) =>
    match cmpI op a b with
    | some c => some (k = k', boolTV c)
    | none => match ariI k op a b with
      | some c => some (k = k', intTV k c)
      | none => (shI k k' op a b).map fun c => (c.1, intTV k c.2)
  | .iv (.lit (.string a)), .iv (.lit (.string b)) => match cmpS op a b with
    | some c => some (True, boolTV c)
    | none => (catS op a b).map fun c => (c.1, .iv (.lit (.string c.2)))
  | .iv (.lit (.bool a)), .iv (.lit (.bool b)) => match d.kind with
    | .bool => (cmpB op a b).map fun c => (True, boolTV c)
    | _ => none
  | .iv (.agg xs), .iv (.agg ys) => match d.plan, op with
    | k :: p, .eql => (eqL (k :: p) xs ys).map fun r => (r.1, boolTV r.2)
    | k :: p, .neq => (eqL (k :: p) xs ys).map fun r => (r.1, boolTV (!r.2))
    | _, _ => none
  | .nilsl, .nilsl => match d.kind, op with
    | .slice _, .eql => some (True, boolTV true)
    | .slice _, .neq => some (True, boolTV false)
    | _, _ => none
  | .nsl _ _, .nilsl => match d.kind, op with
    | .slice _, .eql => some (True, boolTV false)
    | .slice _, .neq => some (True, boolTV true)
    | _, _ => none
  | _, _ => none

def pickQ (c a b : TV) (x y : Operand) : Option (Prop × TV) :=
  match c.strip with
  | .iv (.lit (.bool cb)) =>
    match x with
    | .const (.bool true) =>
      match b.strip with
      | .iv (.lit (.bool v)) => some (cb = false → b.pre, boolTV (cb || v))
      | _ => some (cb = true, boolTV true)
    | _ => match y with
      | .const (.bool false) =>
        match a.strip with
        | .iv (.lit (.bool v)) => some (cb = true → a.pre, boolTV (cb && v))
        | _ => some (cb = false, boolTV false)
      | _ => none
  | _ => none

def natI : TV → Option Int
  | .iv (.lit (.int .i64 n)) => some n
  | _ => none
def intI : TV → Option Int
  | .iv (.lit (.int _ n)) => some n
  | _ => none
/-- A part of a value that lies in one piece. -/
def partI (d : TD) (cs : List IV) (off : Nat) : Prop × TV :=
  bif d.agg then (off + d.size ≤ cs.length, .iv (.agg ((cs.drop off).take d.size))) else (off < cs.length, .iv (cs.getD off .any))
def imList : List TV → List IV
  | [] => []
  | t :: l => t.im :: imList l
def partT (d : TD) (cs : List TV) (off : Nat) : Prop × TV :=
  bif d.agg then (off + d.size ≤ cs.length, .iv (.agg (imList ((cs.drop off).take d.size)))) else (off < cs.length, cs.getD off .any)

/-- A row of a known block, among rows and among objects; and such a row changed. -/
def pinAt : List (Nat × List IV) → Nat → Option (List IV)
  | [], _ => none
  | (c, xs) :: l, b => bif c == b then some xs else pinAt l b
def pinLook : List (Nat × Ob) → Nat → Option (Nat × TypeId × List (Nat × List IV) × List IV)
  | [], _ => none
  | (k, .pins e rs) :: l, b => match pinAt rs b with
    | some xs => some (k, e, rs, xs)
    | none => pinLook l b
  | (_, .box _ _) :: l, b => pinLook l b
  | (_, .row _ _) :: l, b => pinLook l b
  | (_, .map _ _ _) :: l, b => pinLook l b
  | (_, .mrow _ _ _) :: l, b => pinLook l b
  | (_, .lp _ _ _ _ _) :: l, b => pinLook l b
  | (_, .lrow _ _ _ _) :: l, b => pinLook l b
def pinSet : List (Nat × List IV) → Nat → List IV → List (Nat × List IV)
  | [], _, _ => []
  | (c, xs) :: l, b, ys => bif c == b then (c, ys) :: l else (c, xs) :: pinSet l b ys
def pinLoad (d : TD) (off : Nat) : Option (Nat × TypeId × List (Nat × List IV) × List IV) → Option (Prop × TV)
  | some (_, _, _, xs) => bif d.agg then none else some (off < xs.length, .iv (xs.getD off .any))
  | none => none
def pinStore (st : St) (d : TD) (t : TV) (b off : Nat) : Option (Nat × TypeId × List (Nat × List IV) × List IV) → Res
  | some (k, e, rs, xs) => bif d.agg then .no else .ok (t.im.one ∧ off < xs.length ∧ d.size = 1 ∧ t.isA = false) .any (st.setOb k (.pins e (pinSet rs b (xs.set off t.im))))
  | none => .no
def loadQ (st : St) (d : TD) : TV → Option (Prop × TV)
  | .iv (.lit (.pointer (some ⟨b, off, none⟩))) => pinLoad d off (pinLook st.obj b)
  | .rptr cs => some (partI d cs 0)
  | .bptr k off => match look? st.obj k with
    | some (.box _ cs) => some (partT d cs off)
    | _ => none
  | .eptr k sz i off => match look? st.obj k with
    | some (.mrow _ sz' xs) => let p := partI d (xs.getD i .any).cells off; some ((sz = sz' ∧ i < xs.length) ∧ p.1, p.2)
    | _ => none
  | _ => none

def offOf (l : List (Nat × Nat × TypeId)) (f : Nat) : Nat × Nat × TypeId := l.getD f (0, 0, 0)

def fieldAddrQ (d : TD) (f : Nat) : TV → Option (Prop × TV)
  | .bptr k off => match d.kind with
    | .struct l => some (f < l.length ∧ (offOf l f).2.1 ≠ 0, .bptr k (off + (offOf l f).1))
    | _ => none
  | .rptr cs => match d.kind with
    | .struct l => some (f < l.length ∧ (offOf l f).2.1 ≠ 0, .rptr (cs.drop (offOf l f).1))
    | _ => none
  | .eptr k sz i off => match d.kind with
    | .struct l => some (f < l.length ∧ (offOf l f).2.1 ≠ 0, .eptr k sz i (off + (offOf l f).1))
    | _ => none
  | _ => none

def indexAddrQ (τ : Nat → TD) (d : TD) (x : TV) (i : Int) : Option (Prop × TV) :=
  match d.kind with
  | .arr n e =>
    match x with
    | .bptr k off => some ((τ e).known = true ∧ 0 ≤ i ∧ i < n, .bptr k (off + i.toNat * (τ e).size))
    | .rptr cs => some ((τ e).known = true ∧ 0 ≤ i ∧ i < n, .rptr (cs.drop (i.toNat * (τ e).size)))
    | _ => none
  | .slice e =>
    match x.rows with
    | some (sz, xs) => some ((τ e).known = true ∧ 0 ≤ i ∧ i < xs.length ∧ sz = (τ e).size, .rptr (xs.getD i.toNat .any).cells)
    | none => match x with
      | .iv (.lit (.slice (some ⟨b, off, none⟩) n _)) => some ((τ e).known = true ∧ 0 ≤ i ∧ i < n, .iv (.lit (.pointer (some ⟨b, off + i.toNat * (τ e).size, none⟩))))
      | _ => none
  | _ => none

/-- An element of a row that may be written. -/
def indexAddrM (τ : Nat → TD) (st : St) (d : TD) (k : Nat) (i : Int) : Option (Prop × TV) :=
  match d.kind, look? st.obj k with
  | .slice e, some (.mrow e' sz xs) => some ((τ e).known = true ∧ 0 ≤ i ∧ i < xs.length ∧ e' = e ∧ sz = (τ e).size, .eptr k sz i.toNat 0)
  | _, _ => none
def lenM (st : St) (d : TD) (k : Nat) : Option (Prop × TV) :=
  match d.kind, look? st.obj k with
  | .slice _, some (.mrow _ _ xs) => some (True, intTV .i64 xs.length)
  | _, _ => none

def indexQ (τ : Nat → TD) (d : TD) (x : TV) (i : Int) : Option (Prop × TV) :=
  match d.kind, x with
  | .arr n e, .iv (.agg cs) => let p := partI (τ e) cs (i.toNat * (τ e).size); some (((τ e).known = true ∧ 0 ≤ i ∧ i < n) ∧ p.1, p.2)
  | .str, .iv (.lit (.string s)) => some (0 ≤ i ∧ i < s.size, intTV .u8 ((s.data.toList.getD i.toNat 0).toNat))
  | _, _ => none

def fieldQ (τ : Nat → TD) (d : TD) (x : TV) (f : Nat) : Option (Prop × TV) :=
  match d.kind, x with
  | .struct l, .iv (.agg cs) => let p := partI (τ (offOf l f).2.2) cs (offOf l f).1; some (((τ (offOf l f).2.2).known = true ∧ f < l.length) ∧ p.1, p.2)
  | _, _ => none

/-- A nil slice cut at its beginning is nil. -/
def nilCut (d : TD) (lo hi mx : Option TV) : TV → Option (Prop × TV)
  | .nilsl => match lo, hi, mx with
    | none, some t, none => match natI t with
      | some h => some (d.known = true ∧ h = 0, .nilsl)
      | none => none
    | _, _, _ => none
  | _ => none
/-- A slice of a slice, within its length, or of a string. -/
def sliceQ (τ : Nat → TD) (d : TD) (x : TV) (lo hi mx : Option TV) : Option (Prop × TV) :=
  match d.kind, x with
  | .str, .iv (.lit (.string s)) =>
    match (match lo with | none => some 0 | some t => natI t), (match hi with | none => some (s.size : Int) | some t => natI t), mx with
    | some l, some h, none => some (0 ≤ l ∧ l ≤ h ∧ h ≤ s.size, .iv (.lit (.string (s.extract l.toNat h.toNat))))
    | _, _, _ => none
  | .slice e, x => match nilCut (τ e) lo hi mx x with
   | some r => some r
   | none => match x.rows with
    | some (sz, xs) =>
      match (match lo with | none => some 0 | some t => natI t), (match hi with | none => some (xs.length : Int) | some t => natI t), (match mx with | none => some (xs.length : Int) | some t => natI t) with
      | some l, some h, some m => some (((τ e).known = true ∧ (sz = (τ e).size ∨ xs = []) ∧ (mx.isSome = true → hi.isSome = true)) ∧ 0 ≤ l ∧ l ≤ h ∧ h ≤ m ∧ m ≤ xs.length, .iv (.sl sz ((xs.take h.toNat).drop l.toNat)))
      | _, _, _ => none
    | none => none
  | _, _ => none

def unQ : UnOp → TV → Option (Prop × TV)
  | .not, .iv (.lit (.bool b)) => some (True, boolTV (!b))
  | .neg, .iv (.lit (.int k n)) => some (True, intTV k (k.wrap (0 - n)))
  | _, _ => none

/-- Bytes, as elements of a row. -/
def byteV (c : UInt8) : IV := .lit (.int .u8 c.toNat)
def numI : IV → Int
  | .lit (.int _ n) => n
  | _ => 0
def bytesOK : List IV → Prop
  | [] => True
  | .lit (.int .u8 _) :: l => bytesOK l
  | _ :: _ => False
def bytesI (l : List IV) : List UInt8 := l.map fun x => UInt8.ofNat (numI x).toNat
def strI (b : ByteArray) : List IV := b.data.toList.map byteV
def convB (τ : Nat → TD) (s d : TD) : Option (Nat × List IV) → Option (Prop × TV)
  | some (sz, xs) => match s.kind, d.kind with
    | .slice e, .str => match (τ e).kind with
      | .int .u8 => some ((τ e).known = true ∧ (sz = 1 ∨ xs = []) ∧ bytesOK xs, .iv (.lit (.string ⟨(bytesI xs).toArray⟩)))
      | _ => none
    | _, _ => none
  | none => none
def convQ (τ : Nat → TD) (s d : TD) : TV → Option (Prop × TV)
  | .iv (.lit (.int _ n)) => match d.kind with
    | .int k' => some (True, intTV k' (k'.wrap n))
    | _ => none
  | .iv (.lit (.string b)) => match s.kind, d.kind with
    | .str, .str => some (True, .iv (.lit (.string b)))
    | _, _ => none
  | t => convB τ s d t.rows

def mn (a b : Int) : Int := if b < a then b else a
def mx (a b : Int) : Int := if a < b then b else a
def minI : List TV → Option Int
  | [] => none
  | [t] => natI t
  | [t, u] => match natI t, natI u with
    | some a, some b => some (mn a b)
    | _, _ => none
  | [t, u, v] => match natI t, natI u, natI v with
    | some a, some b, some c => some (mn (mn a b) c)
    | _, _, _ => none
  | _ => none
def maxI : List TV → Option Int
  | [] => none
  | [t] => natI t
  | [t, u] => match natI t, natI u with
    | some a, some b => some (mx a b)
    | _, _ => none
  | [t, u, v] => match natI t, natI u, natI v with
    | some a, some b, some c => some (mx (mx a b) c)
    | _, _, _ => none
  | _ => none

def lenQ (d : TD) (x : TV) : Option (Prop × TV) :=
  match d.kind, x with
  | .str, .iv (.lit (.string s)) => some (True, intTV .i64 s.size)
  | .slice _, x => match x.rows with
    | some (_, xs) => some (True, intTV .i64 xs.length)
    | none => none
  | _, _ => none

/-- The cells of a value that is built: parts put in. -/
def fillI (pl : Nat → Nat × Nat) : List IV → List (Nat × IV) → Prop × List IV
  | cs, [] => (True, cs)
  | cs, (i, x) :: l =>
    let r := fillI pl (cs.take (pl i).1 ++ x.cells ++ cs.drop ((pl i).1 + x.cells.length)) l
    (x.one ∧ x.cells.length = (pl i).2 ∧ (pl i).1 + x.cells.length ≤ cs.length ∧ r.1, r.2)
def oxs (st : St) : List (Nat × Operand) → List (Nat × IV)
  | [] => []
  | (i, x) :: l => (i, (ox st x).im) :: oxs st l
def ops? (st : St) : List (Nat × Operand) → Prop
  | [] => True
  | (_, x) :: l => op? st x ∧ ops? st l
def zIVs : List Value → List IV
  | [] => []
  | x :: l => zIV x :: zIVs l
def litZ : List Value → List IV
  | [] => []
  | x :: l => .lit x :: litZ l
/-- A struct's zero cells: if no part is named, they are known as they are. -/
def zB : List (Nat × Operand) → List Value → List IV
  | [], l => litZ l
  | _ :: _, l => zIVs l
def zTVs : List Value → List TV
  | [] => []
  | x :: l => cTV x :: zTVs l

def psLt (n : Nat) : List (Nat × Operand) → Prop
  | [] => True
  | (i, _) :: l => i < n ∧ psLt n l
def buildQ (τ : Nat → TD) (st : St) (t : Nat) (ps : List (Nat × Operand)) : Option (Prop × TV) :=
  match (τ t).kind with
  | .struct l => let r := fillI (fun i => ((offOf l i).1, (offOf l i).2.1)) (zB ps (τ t).zero) (oxs st ps); some ((τ t).known = true ∧ ops? st ps ∧ psLt l.length ps ∧ r.1, .iv (.agg r.2))
  | .arr _ e => let r := fillI (fun i => (i * (τ e).size, (τ e).size)) (zIVs (τ t).zero) (oxs st ps); some ((τ t).known = true ∧ (τ e).known = true ∧ ops? st ps ∧ r.1, .iv (.agg r.2))
  | _ => none

def args? (st : St) : List Operand → Prop
  | [] => True
  | x :: l => op? st x ∧ args? st l
def argsOf (st : St) : List Operand → List TV
  | [] => []
  | x :: l => ox st x :: argsOf st l

/-- What a map holds of a key. -/
def mapFind : List (Int × TV) → Int → Option TV
  | [], _ => none
  | (a, x) :: l, k => bif k == a then some x else mapFind l k
def mapPut : List (Int × TV) → Int → TV → List (Int × TV)
  | [], k, x => [(k, x)]
  | (a, y) :: l, k, x => bif k == a then (k, x) :: l else (a, y) :: mapPut l k x
def mapDel : List (Int × TV) → Int → List (Int × TV)
  | [], _ => []
  | (a, y) :: l, k => bif k == a then l else (a, y) :: mapDel l k
def lookQ (τ : Nat → TD) (st : St) (d : TD) (x : TV) (n : Int) (ok : Bool) : Option (Prop × TV) :=
  match d.kind, x with
  | .map kt vt, .mptr k => match look? st.obj k, (τ kt).kind with
    | some (.map _ _ es), .int .i64 =>
      let v := (mapFind es n).getD ((zTVs (τ vt).zero).getD 0 .any)
      some ((τ kt).known = true ∧ (τ vt).known = true ∧ (τ vt).agg = false, bif ok then .tup [v, boolTV (mapFind es n).isSome] else v)
    | _, _ => none
  | _, _ => none

def indexAddrS (τ : Nat → TD) (st : St) (d : TD) (n : Int) : TV → Option (Prop × TV)
  | .mrow k => indexAddrM τ st d k n
  | v => indexAddrQ τ d v n
def lenS (st : St) (d : TD) : TV → Option (Prop × TV)
  | .mrow k => lenM st d k
  | v => lenQ d v
/-- Operations that only look: what they yield, and what has to hold for that. -/
def quiet (τ : Nat → TD) (st : St) : Op → Option (Prop × TV)
  | .move x | .assign x => some (True, opd st x)
  | .nilCheck x => match ox st x with
    | .bptr k off => some (op? st x, .bptr k off)
    | .eptr k sz i off => some (op? st x, .eptr k sz i off)
    | .rptr cs => some (op? st x, .rptr cs)
    | .clo f caps => some (op? st x, .clo f caps)
    | .yld k => some (op? st x, .yld k)
    | _ => none
  | .pick c a b => (pickQ (opd st c) (opd st a) (opd st b) a b).map fun r => (op? st c ∧ r.1, r.2)
  | .load t x => (loadQ st (τ t) (ox st x)).map fun r => ((τ t).known = true ∧ op? st x ∧ r.1, r.2)
  | .binOp op t x y _ => (binQ op (τ t) (ox st x) (ox st y)).map fun r => ((τ t).known = true ∧ op? st x ∧ op? st y ∧ r.1, r.2)
  | .unOp op _ x => (unQ op (ox st x)).map fun r => (op? st x ∧ r.1, r.2)
  | .convert s d x => (convQ τ (τ s) (τ d) (ox st x)).map fun r => (((τ s).known = true ∧ (τ d).known = true) ∧ op? st x ∧ r.1, r.2)
  | .makeFunc (.func f) ⟨[]⟩ ⟨caps⟩ => some (args? st caps, .clo f (argsOf st caps))
  | .slice t x lo hi m => (sliceQ τ (τ t) (ox st x) (lo.map (ox st)) (hi.map (ox st)) (m.map (ox st))).map fun r => ((τ t).known = true ∧ args? st (x :: (lo.toList ++ hi.toList ++ m.toList)) ∧ r.1, r.2)
  | .fieldAddr t x f => (fieldAddrQ (τ t) f (ox st x)).map fun r => ((τ t).known = true ∧ op? st x ∧ r.1, r.2)
  | .field t x f => (fieldQ τ (τ t) (ox st x) f).map fun r => ((τ t).known = true ∧ op? st x ∧ r.1, r.2)
  | .indexAddr t x i => match intI (ox st i) with
    | some n => (indexAddrS τ st (τ t) n (ox st x)).map fun r => ((τ t).known = true ∧ op? st x ∧ op? st i ∧ r.1, r.2)
    | none => none
  | .index t x i => match intI (ox st i) with
    | some n => (indexQ τ (τ t) (ox st x) n).map fun r => ((τ t).known = true ∧ op? st x ∧ op? st i ∧ r.1, r.2)
    | none => none
  | .lookup t x i ok => match natI (ox st i) with
    | some n => (lookQ τ st (τ t) (ox st x) n ok).map fun r => ((τ t).known = true ∧ op? st x ∧ op? st i ∧ r.1, r.2)
    | none => none
  | .extract t i => match ox st t with
    | .tup vs => some (op? st t ∧ i < vs.length, vs.getD i .any)
    | _ => none
  | .build t ⟨ps⟩ => buildQ τ st t ps
  | .call ⟨.builtin .len, ⟨[x]⟩, ⟨[t]⟩⟩ => (lenS st (τ t) (ox st x)).map fun r => ((τ t).known = true ∧ op? st x ∧ r.1, r.2)
  | .call ⟨.builtin .cap, ⟨[x]⟩, ⟨[t]⟩⟩ => match (τ t).kind, ox st x with
    | .slice _, .nilsl => some ((τ t).known = true ∧ op? st x, intTV .i64 0)
    | _, _ => none
  | .call ⟨.builtin .min, ⟨xs⟩, _⟩ => (minI (argsOf st xs)).map fun n => (args? st xs, intTV .i64 n)
  | .call ⟨.builtin .max, ⟨xs⟩, _⟩ => (maxI (argsOf st xs)).map fun n => (args? st xs, intTV .i64 n)
  | _ => none

/-- The elements of a slice that is written out, in order. -/
def elems (st : St) : List (Nat × Operand) → List IV
  | [] => []
  | (_, x) :: l => (ox st x).im :: elems st l
def ordP : Nat → List (Nat × Operand) → Prop
  | _, [] => True
  | i, (j, _) :: l => j = i ∧ ordP (i + 1) l
def lens? (n : Nat) : List IV → Prop
  | [] => True
  | x :: l => (x.one ∧ x.cells.length = n) ∧ lens? n l

def storeE (st : St) (d : TD) (t : TV) : TV → Res
  | .iv (.lit (.pointer (some ⟨b, off, none⟩))) => pinStore st d t b off (pinLook st.obj b)
  | .bptr k off => match look? st.obj k with
    | some (.box ty cs) =>
      bif d.agg then .ok (t.one ∧ t.cells.length = d.size ∧ off + d.size ≤ cs.length) .any (st.setOb k (.box ty (cs.take off ++ t.cells ++ cs.drop (off + t.cells.length))))
      else .ok (t.one ∧ off < cs.length ∧ d.size = 1 ∧ t.isA = false) .any (st.setOb k (.box ty (cs.set off t)))
    | _ => .no
  | .eptr k sz i off => match look? st.obj k with
    | some (.mrow e sz' xs) =>
      let cs := (xs.getD i .any).cells
      match xs.getD i .any with
      | .agg _ => bif d.agg then .ok ((sz = sz' ∧ i < xs.length) ∧ t.im.one ∧ t.im.cells.length = d.size ∧ off + d.size ≤ cs.length) .any (st.setOb k (.mrow e sz' (xs.set i (.agg (cs.take off ++ t.im.cells ++ cs.drop (off + t.im.cells.length))))))
        else .ok ((sz = sz' ∧ i < xs.length) ∧ t.im.one ∧ off < cs.length ∧ d.size = 1 ∧ t.isA = false) .any (st.setOb k (.mrow e sz' (xs.set i (.agg (cs.set off t.im)))))
      | _ => bif d.agg then .no
        else .ok ((sz = sz' ∧ i < xs.length) ∧ t.im.one ∧ off = 0 ∧ sz = 1 ∧ d.size = 1 ∧ t.isA = false) .any (st.setOb k (.mrow e sz' (xs.set i t.im)))
    | _ => .no
  | _ => .no

/-- An object left out. -/
def rmAt {α : Type} : List (Nat × α) → Nat → List (Nat × α)
  | [], _ => []
  | (j, t) :: l, i => bif i == j then l else (j, t) :: rmAt l i
/-- A row that may be written goes on under a new name. -/
def St.moved (st : St) (k : Nat) (o : Ob) : St := ⟨st.env, (st.nx, o) :: rmAt st.obj k, st.nx + 1⟩
/-- The zero value of an element. -/
def zElem (d : TD) : IV := bif d.agg then .agg (zIVs d.zero) else (zIVs d.zero).getD 0 .any

def appendE (st : St) (e : TypeId) (d : TD) (ys : List IV) : TV → Res
  | .nilsl => .ok (ys.length * d.bytes ≤ 140737488355328 ∧ ys.length ≤ 4294967296 ∧ lens? d.size ys) (.acc st.nx d.size ys) (st.new (.row e d.size))
  | .acc k sz xs => match look? st.obj k with
    | some (.row e' sz') => .ok (e' = e ∧ sz' = d.size ∧ sz = d.size ∧ (xs.length + ys.length) * d.bytes ≤ 140737488355328 ∧ xs.length + ys.length ≤ 4294967296) (.acc k sz (xs ++ ys)) (st.dem k)
    | _ => .no
  | .mrow k => match look? st.obj k with
    | some (.mrow e' sz' xs) => .ok (e' = e ∧ sz' = d.size ∧ (xs.length + ys.length) * d.bytes ≤ 140737488355328 ∧ xs.length + ys.length ≤ 4294967296) (.mrow st.nx) (st.moved k (.mrow e' sz' (xs ++ ys)))
    | _ => .no
  | _ => .no

/-- append of so many zeros, onto nothing. -/
def appendN (τ : Nat → TD) (st : St) (t e u : TypeId) (x y : Operand) : Res :=
  match ox st x, natI (ox st y), (τ u).kind with
  | .nilsl, some n, .int _ => .ok (((τ t).known = true ∧ (τ e).known = true ∧ (τ u).known = true) ∧ op? st x ∧ op? st y ∧ 0 < n ∧ n * (τ e).bytes ≤ 140737488355328 ∧ n ≤ 4294967296 ∧ 0 < (τ e).size) (.mrow st.nx) (st.new (.mrow e (τ e).size (List.replicate n.toNat (zElem (τ e)))))
  | _, _, _ => .no
/-- append of a string's bytes. -/
def appendS (τ : Nat → TD) (st : St) (t e u : TypeId) (x y : Operand) : TV → Res
  | .iv (.lit (.string b)) => match (τ u).kind, (τ e).kind with
    | .str, .int .u8 => match appendE st e (τ e) (strI b) (ox st x) with
      | .ok C r st' => .ok ((τ t).known = true ∧ (τ e).known = true ∧ (τ u).known = true ∧ op? st x ∧ op? st y ∧ (τ e).size = 1 ∧ (τ e).bytes = 1 ∧ (τ e).agg = false ∧ (τ e).zero = [.int .u8 0] ∧ C) r st'
      | _ => .no
    | _, _ => .no
  | _ => appendN τ st t e u x y
/-- Rows of known blocks, of such elements. -/
def pinObj (e : TypeId) : List (Nat × Ob) → Option (Nat × List (Nat × List IV))
  | [] => none
  | (k, .pins e' rs) :: l => bif e' == e then some (k, rs) else pinObj e l
  | (_, .box _ _) :: l => pinObj e l
  | (_, .row _ _) :: l => pinObj e l
  | (_, .map _ _ _) :: l => pinObj e l
  | (_, .mrow _ _ _) :: l => pinObj e l
  | (_, .lp _ _ _ _ _) :: l => pinObj e l
  | (_, .lrow _ _ _ _) :: l => pinObj e l
/-- A row whose value is known to the letter, of such elements. -/
def lrObj (e : TypeId) : List (Nat × Ob) → Option (Nat × Nat × Value × List IV)
  | [] => none
  | (k, .lrow e' sz v xs) :: l => bif e' == e then some (k, sz, v, xs) else lrObj e l
  | (_, .pins _ _) :: l => lrObj e l
  | (_, .box _ _) :: l => lrObj e l
  | (_, .row _ _) :: l => lrObj e l
  | (_, .map _ _ _) :: l => lrObj e l
  | (_, .mrow _ _ _) :: l => lrObj e l
  | (_, .lp _ _ _ _ _) :: l => lrObj e l
/-- append onto such a row. -/
def appendL (τ : Nat → TD) (st : St) (t e u : TypeId) (x y : Operand) (ys : List IV) : TV → Res
  | .iv (.lit v) => match lrObj e st.obj with
    | some (k, sz, v', xs) => .call ((τ t).known = true ∧ (τ e).known = true ∧ t = u ∧ op? st x ∧ op? st y ∧ lens? (τ e).size ys ∧ 0 < (τ e).size ∧ v = v' ∧ sz = (τ e).size ∧ (xs.length + ys.length) * (τ e).bytes ≤ 140737488355328 ∧ xs.length + ys.length ≤ 4294967296) (.la k e sz (xs ++ ys)) []
    | none => .no
  | _ => .no
/-- A row made: one that may be written; or, where rows of known blocks stand, one more of them. -/
def makeR (τ : Nat → TD) (st : St) (t e : TypeId) (n c : Operand) (i j : Int) : Option (Nat × List (Nat × List IV)) → Res
  | none => .ok ((τ t).known = true ∧ (τ e).known = true ∧ op? st n ∧ op? st c ∧ 0 ≤ i ∧ i = j ∧ i * (τ e).bytes ≤ 140737488355328 ∧ i ≤ 4294967296 ∧ 0 < (τ e).size) (.mrow st.nx) (st.new (.mrow e (τ e).size (List.replicate i.toNat (zElem (τ e)))))
  | some (K, rs) => .call ((τ t).known = true ∧ (τ e).known = true ∧ op? st n ∧ op? st c ∧ 0 ≤ i ∧ i = j ∧ i * (τ e).bytes ≤ 140737488355328 ∧ i ≤ 4294967296 ∧ (τ e).size = 1 ∧ (τ e).agg = false) (.pn K e rs (List.replicate i.toNat (zElem (τ e)))) []
def step (τ : Nat → TD) (st : St) (o : Oper) : Res :=
  match quiet τ st o.op with
  | some r => .ok r.1 r.2 st
  | none => match o.op with
    | .alloc t => .ok ((τ t).known = true) (.bptr st.nx 0) (st.new (.box t (zTVs (τ t).zero)))
    | .box t x => .ok (op? st x ∧ (ox st x).one) (.bptr st.nx 0) (st.new (.box t (ox st x).cells))
    | .store t p x => match storeE st (τ t) (ox st x) (ox st p) with
      | .ok C u st' => .ok ((τ t).known = true ∧ op? st x ∧ op? st p ∧ C) u st'
      | _ => .no
    | .makeMap t none => match (τ t).kind with
      | .map kt vt => .ok ((τ t).known = true) (.mptr st.nx) (st.new (.map kt vt []))
      | _ => .no
    | .mapUpdate t m k x => match (τ t).kind, ox st m, natI (ox st k) with
      | .map kt _, .mptr j, some n => match look? st.obj j, (τ kt).kind with
        | some (.map kt' vt' es), .int .i64 => .ok ((τ t).known = true ∧ (τ kt).known = true ∧ op? st m ∧ op? st k ∧ op? st x) .any (st.setOb j (.map kt' vt' (mapPut es n (ox st x))))
        | _, _ => .no
      | _, _, _ => .no
    | .call ⟨.builtin .delete, ⟨[m, k]⟩, ⟨[t, _]⟩⟩ => match (τ t).kind, ox st m, natI (ox st k) with
      | .map kt _, .mptr j, some n => match look? st.obj j, (τ kt).kind with
        | some (.map kt' vt' es), .int .i64 => .ok ((τ t).known = true ∧ (τ kt).known = true ∧ op? st m ∧ op? st k) .any (st.setOb j (.map kt' vt' (mapDel es n)))
        | _, _ => .no
      | _, _, _ => .no
    | .buildSlice t n ⟨ps⟩ => match (τ t).kind with
      | .slice e => match n with
        | 0 => .ok ((τ t).known = true ∧ (τ e).known = true ∧ ps.length = 0) (.acc st.nx (τ e).size []) (st.new (.row e (τ e).size))
        | n + 1 => let xs := elems st ps; .ok ((τ t).known = true ∧ (τ e).known = true ∧ ops? st ps ∧ ordP 0 ps ∧ ps.length = n + 1 ∧ n < 1000 ∧ 0 < (τ e).size ∧ (τ e).size < 1000 ∧ lens? (τ e).size xs) (.nsl (τ e).size xs) st
      | _ => .no
    | .call ⟨.builtin .append, ⟨[x, y]⟩, ⟨[t, u]⟩⟩ => match (τ t).kind with
      | .slice e => match (ox st y).rows with
        | some (_, ys) => match appendE st e (τ e) ys (ox st x) with
          | .ok C r st' => .ok ((τ t).known = true ∧ (τ e).known = true ∧ t = u ∧ op? st x ∧ op? st y ∧ lens? (τ e).size ys ∧ 0 < (τ e).size ∧ C) r st'
          | _ => appendL τ st t e u x y ys (ox st x)
        | none => appendS τ st t e u x y (ox st y)
      | _ => .no
    | .call ⟨.value f, ⟨xs⟩, _⟩ => match ox st f with
      | .clo g caps => .call (op? st f ∧ args? st xs) (.fn g) (argsOf st xs ++ caps)
      | .yld k => .call (op? st f ∧ args? st xs) (.yl k) (argsOf st xs)
      | _ => .no
    | .convert s d x => match (τ d).kind, ox st x with
      | .slice e, .iv (.lit (.string b)) => match (τ e).kind with
        | .int .u8 => .ok ((τ s).known = true ∧ (τ d).known = true ∧ (τ e).known = true ∧ (τ e).size = 1 ∧ op? st x) (.nsl 1 (strI b)) st
        | _ => .no
      | _, _ => .no
    | .makeSlice t n c => match (τ t).kind, natI (ox st n), natI (ox st c) with
      | .slice e, some i, some j => makeR τ st t e n c i j (pinObj e st.obj)
      | _, _, _ => .no
    | .slice t x lo hi none => match (τ t).kind, ox st x, lo with
      | .slice e, .mrow k, none => match look? st.obj k, hi.map fun h => natI (ox st h) with
        | some (.mrow e' sz xs), some (some h) => .call ((τ t).known = true ∧ op? st x ∧ args? st hi.toList ∧ e' = e ∧ (τ e).known = true ∧ sz = (τ e).size ∧ 0 ≤ h ∧ h ≤ xs.length) (.ct k (.mrow e' sz (xs.take h.toNat))) []
        | _, _ => .no
      | _, _, _ => .no
    | _ => .no
end Go.PL
namespace Go.PL
/-- A guard: the test that an operation hangs on. -/
def gcond (t : TV) (want : Bool) : Option Bool :=
  match t with
  | .iv (.lit (.bool b)) => some (b == want)
  | .wh c (.iv (.lit (.bool b))) => some (c && b == want)
  | .wh false _ => some false
  | _ => none
def gslot (all : List Oper) (j : Nat) : Option Nat :=
  match all[j]? with
  | some o => o.dst
  | none => none

/-- One operation, carried out. -/
def exO (G : Cal → List TV → St → (TV → St → Prop) → Prop) (τ : Nat → TD) (o : Oper) (st : St) (K : St → Prop) : Prop :=
  match step τ st o with
  | .ok C t st' => C ∧ K (st'.put o.dst t)
  | .call C f args => C ∧ G f args st (fun t st' => K (st'.put o.dst t))
  | .no => False

/-- Operations, one behind the other. -/
def wpO (G : Cal → List TV → St → (TV → St → Prop) → Prop) (τ : Nat → TD) (all : List Oper) : List Oper → St → (St → Prop) → Prop
  | [], st, K => K st
  | o :: l, st, K =>
    match o.guard with
    | none => exO G τ o st (fun st' => wpO G τ all l st' K)
    | some (j, want) =>
      match (match gslot all j with | some d => gcond (st.get d) want | none => none) with
      | some c =>
        match quiet τ st o.op with
        | some r => (c = true → r.1 ∧ r.2.pre) ∧ wpO G τ all l (st.put o.dst (.wh c r.2.strip)) K
        | none => (c = true → exO G τ o st (fun st' => wpO G τ all l st' K)) ∧ (c = false → wpO G τ all l (st.put o.dst .any) K)
      | none => False

/-- All destinations lie in the frame. -/
def dstOK (N : Nat) : List Oper → Bool
  | [] => true
  | o :: l => (match o.dst with | some d => decide (d < N) | none => true) && dstOK N l

mutual
/-- The same but for the element sizes of slices of nothing. -/
def IV.leq : IV → IV → Prop
  | .any, y => y = .any
  | .lit v, y => y = .lit v
  | .agg cs, .agg ds => IV.leqL cs ds
  | .agg _, .any => False
  | .agg _, .lit _ => False
  | .agg _, .sl _ _ => False
  | .sl sz xs, .sl sz' ys => (xs = [] ∧ ys = []) ∨ (sz = sz' ∧ IV.leqL xs ys)
  | .sl _ _, .any => False
  | .sl _ _, .lit _ => False
  | .sl _ _, .agg _ => False
def IV.leqL : List IV → List IV → Prop
  | [], [] => True
  | x :: l, y :: m => IV.leq x y ∧ IV.leqL l m
  | [], _ :: _ => False
  | _ :: _, [] => False
end
/-- What may be forgotten of a value. -/
def TVle : TV → TV → Prop
  | _, .any => True
  | t, .iv x => t.im = x ∨ t = .iv x ∨ t.im.leq x
  | .iv (.lit (.slice none 0 0)), .nilsl => True
  | t, t' => t = t'
def TV.ok1 (n : Nat) : TV → Bool
  | .acc k _ _ => decide (k < n)
  | .bptr k _ => decide (k < n)
  | .mptr k => decide (k < n)
  | .mrow k => decide (k < n)
  | .eptr k _ _ _ => decide (k < n)
  | .yld k => decide (k < n)
  | .clo _ _ => false
  | .tup _ => false
  | .wh _ _ => false
  | _ => true
def TV.okN (n : Nat) : TV → Bool
  | .clo _ caps => caps.all (TV.ok1 n)
  | .tup ts => ts.all (TV.ok1 n)
  | t => t.ok1 n
def envle (st : St) (n : Nat) : List (Nat × TV) → Prop
  | [] => True
  | (i, t) :: l => TVle (st.get i) t ∧ t.okN n = true ∧ envle st n l
def envOk {α : Type} (n : Nat) : List (α × TV) → Prop
  | [] => True
  | (_, t) :: l => t.okN n = true ∧ envOk n l
def cellsle (n : Nat) : List TV → List TV → Prop
  | [], [] => True
  | t :: l, t' :: l' => TVle t t' ∧ t'.okN n = true ∧ cellsle n l l'
  | _, _ => False
/-- A map's entries, forgotten. -/
def mapsle (n : Nat) : List (Int × TV) → List (Int × TV) → Prop
  | [], [] => True
  | (a, t) :: l, (a', t') :: l' => a = a' ∧ TVle t t' ∧ t'.okN n = true ∧ mapsle n l l'
  | _, _ => False
def obsle (st : St) (n : Nat) : List (Nat × Ob) → Prop
  | [] => True
  | (k, o) :: l => (match look? st.obj k, o with
      | some (.box ty cs), .box ty' cs' => ty = ty' ∧ cellsle n cs cs'
      | some (.row e sz), .row e' sz' => e = e' ∧ sz = sz'
      | some (.map kt vt es), .map kt' vt' es' => kt = kt' ∧ vt = vt' ∧ mapsle n es es'
      | some (.mrow e sz xs), .mrow e' sz' xs' => e = e' ∧ sz = sz' ∧ xs = xs'
      | some (.pins e rs), .pins e' rs' => e = e' ∧ rs = rs'
      | some (.lrow e sz v xs), .lrow e' sz' v' xs' => e = e' ∧ sz = sz' ∧ v = v' ∧ xs = xs'
      | some (.lp s ps a b env), .lp s' ps' a' b' env' => s = s' ∧ ps = ps' ∧ a = a' ∧ b = b' ∧ env = env' ∧ envOk n env'
      | _, _ => False) ∧ k < n ∧ obsle st n l
def keysNd : List (Nat × Ob) → Prop
  | [] => True
  | (k, _) :: l => look? l k = none ∧ keysNd l
/-- A state may be forgotten down to another one. -/
def St.le (st st' : St) : Prop := st'.nx ≤ st.nx ∧ envle st st'.nx st'.env ∧ obsle st st'.nx st'.obj ∧ keysNd st'.obj
end Go.PL
