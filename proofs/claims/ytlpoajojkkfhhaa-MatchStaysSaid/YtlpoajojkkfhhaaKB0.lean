/- THE LOGIC'S MEANING: what a pure state says of a world, and what it is to be carried out. -/
import Derived.Test.YtlpoajojkkfhhaaKA
namespace Go.PL

structure Kx where
  w : World
  prot : Addr → Prop
  F : Nat → Prop
  tk : Nat → Value
  n : Nat

inductive IVR (w : World) (prot : Addr → Prop) : IV → Value → Prop where
  | any (v : Value) : IVR w prot .any v
  | lit (v : Value) : IVR w prot (.lit v) v
  | agg (cs : List IV) (us : List Value) (hl : us.length = cs.length) (h1 : ∀ u ∈ us, u.oneCell' = true)
      (h : ∀ (j : Nat) (c : IV) (u : Value), cs[j]? = some c → us[j]? = some u → IVR w prot c u) : IVR w prot (.agg cs) (.agg us.toArray)
  | sl (A : Option Addr) (sz : Nat) (xs : List IV) (c : Nat) (us : List Value) (hc : xs.length ≤ c) (hl : us.length = xs.length * sz)
      (hsz : ∀ x ∈ xs, x.cells.length = sz) (h1 : ∀ u ∈ us, u.oneCell' = true) (hA : 0 < xs.length → ∃ ad, A = some ad)
      (ha : ∀ ad, A = some ad → ∀ (j : Nat) (u : Value), us[j]? = some u → w.cell? (ad.add j) = some u ∧ prot (ad.add j))
      (h : ∀ (j : Nat) (x : IV) (u : Value), (xs.flatMap IV.cells)[j]? = some x → us[j]? = some u → IVR w prot x u) (hN : A = none → c = 0) : IVR w prot (.sl sz xs) (.slice A xs.length c)

inductive TVR (κ : Kx) : TV → Value → Prop where
  | any (v : Value) : TVR κ .any v
  | iv (x : IV) (v : Value) (h : IVR κ.w κ.prot x v) : TVR κ (.iv x) v
  | nilsl : TVR κ .nilsl (.slice none 0 0)
  | nsl (sz : Nat) (xs : List IV) (ad : Addr) (n c : Nat) (h : IVR κ.w κ.prot (.sl sz xs) (.slice (some ad) n c)) : TVR κ (.nsl sz xs) (.slice (some ad) n c)
  | acc (k sz : Nat) (xs : List IV) (hk : k < κ.n) (h : IVR κ.w κ.prot (.sl sz xs) (κ.tk k)) : TVR κ (.acc k sz xs) (κ.tk k)
  | bptr (k off b : Nat) (hk : k < κ.n) (h : κ.tk k = .pointer (some ⟨b, 0, none⟩)) : TVR κ (.bptr k off) (.pointer (some ⟨b, off, none⟩))
  | mptr (k b : Nat) (hk : k < κ.n) (h : κ.tk k = .map (some b)) : TVR κ (.mptr k) (.map (some b))
  | rptr (cs : List IV) (ad : Addr) (us : List Value) (hl : us.length = cs.length) (h1 : ∀ u ∈ us, u.oneCell' = true)
      (ha : ∀ (j : Nat) (u : Value), us[j]? = some u → κ.w.cell? (ad.add j) = some u ∧ κ.prot (ad.add j))
      (h : ∀ (j : Nat) (c : IV) (u : Value), cs[j]? = some c → us[j]? = some u → IVR κ.w κ.prot c u) : TVR κ (.rptr cs) (.pointer (some ad))
  | clo (f : FuncId) (caps : List TV) (us : List Value) (hl : us.length = caps.length)
      (h : ∀ (j : Nat) (c : TV) (u : Value), caps[j]? = some c → us[j]? = some u → TVR κ c u) : TVR κ (.clo f caps) (.func (.func f) #[] us.toArray)
  | tup (vs : List TV) (us : List Value) (hl : us.length = vs.length)
      (h : ∀ (j : Nat) (c : TV) (u : Value), vs[j]? = some c → us[j]? = some u → TVR κ c u) : TVR κ (.tup vs) (.tuple us.toArray)
  | wh (b : Bool) (t : TV) (v : Value) (h : b = true → TVR κ t v) (hu : b = false → v = undef) : TVR κ (.wh b t) v

def blkOf : Value → Option Nat
  | .pointer (some a) => some a.block
  | .slice (some a) _ _ => some a.block
  | .map (some b) => some b
  | _ => none
def isPtr : Value → Bool
  | .pointer _ => true
  | .map _ => true
  | _ => false

def ObR (κ : Kx) (k : Nat) : Ob → Prop
  | .box ty cs => ∃ (b : Nat) (us : List Value), κ.tk k = .pointer (some ⟨b, 0, none⟩) ∧ κ.w.heap[b]? = some (.cells us.toArray ty (0, 0)) ∧ us.length = cs.length ∧
      (∀ (j : Nat) (c : TV) (u : Value), cs[j]? = some c → us[j]? = some u → TVR κ c u) ∧ (∀ u ∈ us, u.oneCell' = true) ∧ ¬ κ.F b ∧ ∀ a, κ.prot a → a.block ≠ b
  | .map kt vt es => ∃ (b : Nat) (ms : Array MapEntry) (clock : Nat), κ.tk k = .map (some b) ∧ κ.w.heap[b]? = some (.map ms clock) ∧ ms.size = es.length ∧
      (∀ (j : Nat) (p : Int × IV) (e : MapEntry), es[j]? = some p → ms[j]? = some e → e.key = .int .i64 p.1 ∧ IVR κ.w κ.prot p.2 e.val) ∧ ¬ κ.F b ∧ ∀ a, κ.prot a → a.block ≠ b
  | .row e sz => κ.tk k = .slice none 0 0 ∨ ∃ (b n c : Nat) (cur : Array Value), κ.tk k = .slice (some ⟨b, 0, none⟩) n c ∧ κ.w.heap[b]? = some (.cells cur e (0, 0)) ∧
      n ≤ c ∧ c ≤ maxLen ∧ cur.size = c * sz ∧ ¬ κ.F b ∧ ∀ a, κ.prot a → a.block = b → a.off < n * sz

structure RelO (κ : Kx) (obj : List (Nat × Ob)) : Prop where
  obs : ∀ k o, look? obj k = some o → k < κ.n ∧ ObR κ k o
  dis : ∀ k o k' o', look? obj k = some o → look? obj k' = some o' → k ≠ k' → ∀ b, blkOf (κ.tk k) = some b → blkOf (κ.tk k') ≠ some b
  nd : keysNd obj
  prot : ∀ a, κ.prot a → (κ.w.cell? a).isSome = true
  fr : ∀ b, κ.F b → b < κ.w.heap.size

structure Rel (κ : Kx) (N : Nat) (st : St) (a : Act) : Prop where
  o : RelO κ st.obj
  env : ∀ i, TVR κ (st.get i) (a.tmps.getD i undef)
  size : a.tmps.size = N
  nodef : a.defers = []
  nx : κ.n = st.nx

structure Ext (κ κ' : Kx) : Prop where
  os : κ'.w.os = κ.w.os
  tape : κ'.w.tape = κ.w.tape
  output : κ'.w.output = κ.w.output
  size : κ.w.heap.size ≤ κ'.w.heap.size
  F : κ'.F = κ.F
  fr : ∀ b, κ.F b → κ'.w.heap[b]? = κ.w.heap[b]?
  prot : ∀ a, κ.prot a → κ'.prot a ∧ κ'.w.cell? a = κ.w.cell? a
  np : ∀ a, κ'.prot a → κ.prot a ∨ ¬ κ.F a.block

/-- The objects below m that are variables stay where they are. -/
structure Keep (m : Nat) (κ κ' : Kx) : Prop where
  n : m ≤ κ'.n
  tk : ∀ k, k < m → isPtr (κ.tk k) = true → κ'.tk k = κ.tk k

/-- Code, carried out in a pure state: whatever world it stands for. -/
def PWp (P : Program) (N m : Nat) (c : Code) (Q : Exit → St → Prop) (st : St) : Prop :=
  ∀ (κ : Kx) (a : Act), Rel κ N st a → m ≤ κ.n →
    c.wp P (fun e a' w' => ∃ κ' st', κ'.w = w' ∧ Rel κ' N st' a' ∧ Ext κ κ' ∧ Keep m κ κ' ∧ Q e st') a κ.w

/-- A function that can be called. -/
def Callable (P : Program) (f : FuncId) : Prop := ∃ fn c, P.funcs[f]? = some fn ∧ fn.body = some c ∧ (fn.name == "runtime.NumGoroutine") = false

/-- A call, as whoever calls meets it. -/
def PCall (P : Program) (m : Nat) (f : FuncId) (args : List TV) (st : St) (K : TV → St → Prop) : Prop :=
  Callable P f ∧ ∀ (κ : Kx) (N : Nat) (a : Act) (vs : List Value), Rel κ N st a → m ≤ κ.n → vs.length = args.length → (∀ (j : Nat) (t : TV) (v : Value), args[j]? = some t → vs[j]? = some v → TVR κ t v) →
    Calls P f vs.toArray κ.w (fun e w' => ∃ κ' v t st', e = .returned v ∧ κ'.w = w' ∧ Rel κ' N st' a ∧ Ext κ κ' ∧ Keep m κ κ' ∧ TVR κ' t v ∧ K t st')

def csOk (n : Nat) : List TV → Prop
  | [] => True
  | t :: l => t.okN n = true ∧ csOk n l
def obOk (n : Nat) : Ob → Prop
  | .box _ cs => csOk n cs
  | .row _ _ => True
  | .map _ _ _ => True

/-- A function's contract, in names of its own: objects below n come in, those below n' are there behind it. -/
def PC (P : Program) (f : FuncId) (args : List TV) (obs : List (Nat × Ob)) (n n' : Nat) (R : TV → List (Nat × Ob) → Prop) : Prop :=
  Callable P f ∧ ∀ (κ : Kx) (vs : List Value), RelO κ obs → κ.n = n → vs.length = args.length → (∀ (j : Nat) (t : TV) (v : Value), args[j]? = some t → vs[j]? = some v → TVR κ t v) →
    Calls P f vs.toArray κ.w (fun e w' => ∃ κ' v t obs', e = .returned v ∧ κ'.w = w' ∧ RelO κ' obs' ∧ (∀ k o, look? obs' k = some o → obOk n' o) ∧ κ'.n = n' ∧ Ext κ κ' ∧ Keep n κ κ' ∧ t.okN n' = true ∧ TVR κ' t v ∧ R t obs')
end Go.PL
