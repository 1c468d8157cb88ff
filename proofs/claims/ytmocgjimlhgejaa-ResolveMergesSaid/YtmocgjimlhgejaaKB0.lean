/- THE LOGIC'S MEANING: what a pure state says of a world, and what it is to be carried out. -/
import Derived.Test.YtmocgjimlhgejaaKA
import Derived.CallsIn
namespace Go.PL

/-- Blocks that are left alone; the number of blocks that there were at the beginning, and the calls that are deferred. -/
structure Fz where
  p : Nat → Prop
  bd : Nat × List Deferred
instance : CoeFun Fz (fun _ => Nat → Prop) := ⟨Fz.p⟩

structure Kx where
  w : World
  prot : Addr → Prop
  F : Fz
  tk : Nat → Value
  n : Nat

inductive IVR (w : World) (prot : Addr → Prop) : IV → Value → Prop where
  | any (v : Value) : IVR w prot .any v
  | lit (v : Value) : IVR w prot (.lit v) v
  | agg (cs : List IV) (us : List Value) (hl : us.length = cs.length) (h1 : ∀ u ∈ us, u.oneCell' = true)
      (h : ∀ (j : Nat) (c : IV) (u : Value), cs[j]? = some c → us[j]? = some u → IVR w prot c u) : IVR w prot (.agg cs) (.agg us.toArray)
  | sl (A : Option Addr) (sz : Nat) (xs : List IV) (c : Nat) (us : List Value) (hc : xs.length ≤ c) (hl : us.length = xs.length * sz)
      (hsz : ∀ x ∈ xs, x.cells.length = sz) (h1 : ∀ u ∈ us, u.oneCell' = true) (hA : 0 < xs.length → ∃ ad, A = some ad)
      (ha : ∀ ad, A = some ad → ∀ (j : Nat) (u : Value), us[j]? = some u → w.cell? (ad.add j) = some u ∧ prot (ad.add j))
      (h : ∀ (j : Nat) (x : IV) (u : Value), (xs.flatMap IV.cells)[j]? = some x → us[j]? = some u → IVR w prot x u) (hN : A = none → c = 0) : IVR w prot (.sl sz xs) (.slice A xs.length c)

inductive TVR (κ : Kx) : TV → Value → Prop where
  | any (v : Value) : TVR κ .any v
  | iv (x : IV) (v : Value) (h : IVR κ.w κ.prot x v) : TVR κ (.iv x) v
  | nilsl : TVR κ .nilsl (.slice none 0 0)
  | nsl (sz : Nat) (xs : List IV) (ad : Addr) (n c : Nat) (h : IVR κ.w κ.prot (.sl sz xs) (.slice (some ad) n c)) : TVR κ (.nsl sz xs) (.slice (some ad) n c)
  | acc (k sz : Nat) (xs : List IV) (hk : k < κ.n) (h : IVR κ.w κ.prot (.sl sz xs) (κ.tk k)) : TVR κ (.acc k sz xs) (κ.tk k)
  | bptr (k off b : Nat) (hk : k < κ.n) (h : κ.tk k = .pointer (some ⟨b, 0, none⟩)) : TVR κ (.bptr k off) (.pointer (some ⟨b, off, none⟩))
  | mptr (k b : Nat) (hk : k < κ.n) (h : κ.tk k = .map (some b)) : TVR κ (.mptr k) (.map (some b))
  | mrow (k : Nat) (A : Option Addr) (n c : Nat) (hk : k < κ.n) (h : κ.tk k = .tuple ⟨[.slice A n c]⟩) : TVR κ (.mrow k) (.slice A n c)
  | eptr (k sz i off b n c : Nat) (hk : k < κ.n) (h : κ.tk k = .tuple ⟨[.slice (some ⟨b, 0, none⟩) n c]⟩) : TVR κ (.eptr k sz i off) (.pointer (some ⟨b, i * sz + off, none⟩))
  | yld (k b : Nat) (hk : k < κ.n) (h : κ.tk k = .func (.yield b) #[] #[]) : TVR κ (.yld k) (.func (.yield b) #[] #[])
  | rptr (cs : List IV) (ad : Addr) (us : List Value) (hl : us.length = cs.length) (h1 : ∀ u ∈ us, u.oneCell' = true)
      (ha : ∀ (j : Nat) (u : Value), us[j]? = some u → κ.w.cell? (ad.add j) = some u ∧ κ.prot (ad.add j))
      (h : ∀ (j : Nat) (c : IV) (u : Value), cs[j]? = some c → us[j]? = some u → IVR κ.w κ.prot c u) : TVR κ (.rptr cs) (.pointer (some ad))
  | clo (f : FuncId) (caps : List TV) (us : List Value) (hl : us.length = caps.length)
      (h : ∀ (j : Nat) (c : TV) (u : Value), caps[j]? = some c → us[j]? = some u → TVR κ c u) : TVR κ (.clo f caps) (.func (.func f) #[] us.toArray)
  | tup (vs : List TV) (us : List Value) (hl : us.length = vs.length)
      (h : ∀ (j : Nat) (c : TV) (u : Value), vs[j]? = some c → us[j]? = some u → TVR κ c u) : TVR κ (.tup vs) (.tuple us.toArray)
  | wh (b : Bool) (t : TV) (v : Value) (h : b = true → TVR κ t v) (hu : b = false → v = undef) : TVR κ (.wh b t) v

def blkOf : Value → Option Nat
  | .pointer (some a) => some a.block
  | .slice (some a) _ _ => some a.block
  | .map (some b) => some b
  | .tuple ⟨[.slice (some a) _ _]⟩ => some a.block
  | .func (.yield b) _ _ => some b
  | _ => none
def ownsP : List Value → Nat → Prop
  | [], _ => False
  | .pointer (some a) :: l, b => a.block = b ∨ ownsP l b
  | _ :: l, b => ownsP l b
/-- The blocks that a token names. -/
def Own : Value → Nat → Prop
  | .tuple ⟨.bool _ :: l⟩, b => ownsP l b
  | v, b => blkOf v = some b
def isPtr : Value → Bool
  | .pointer _ => true
  | .map _ => true
  | .tuple _ => true
  | .func _ _ _ => true
  | _ => false

/-- Rows of one-cell elements whose blocks are known by their numbers. -/
def pinToks : List (Nat × List IV) → List Value
  | [] => []
  | (b, _) :: l => .pointer (some ⟨b, 0, none⟩) :: pinToks l
def pinNd : List (Nat × List IV) → Prop
  | [] => True
  | (b, _) :: l => (∀ ys, (b, ys) ∉ l) ∧ pinNd l
def PinR (κ : Kx) (e : TypeId) (b : Nat) (xs : List IV) : Prop := ∃ us : List Value, κ.w.heap[b]? = some (.cells us.toArray e (0, 0)) ∧ us.length = xs.length ∧
  (∀ (j : Nat) (x : IV) (u : Value), xs[j]? = some x → us[j]? = some u → IVR κ.w κ.prot x u) ∧ (∀ u ∈ us, u.oneCell' = true) ∧ ¬ κ.F b ∧ ∀ a, κ.prot a → a.block ≠ b
/-- How a loop over a function stands. -/
def lpS (s : Nat) : LoopState := if s % 4 = 0 then .ready else if s % 4 = 1 then .busy else .exhausted
def ObR (κ : Kx) (k : Nat) : Ob → Prop
  | .box ty cs => ∃ (b : Nat) (us : List Value), κ.tk k = .pointer (some ⟨b, 0, none⟩) ∧ κ.w.heap[b]? = some (.cells us.toArray ty (0, 0)) ∧ us.length = cs.length ∧
      (∀ (j : Nat) (c : TV) (u : Value), cs[j]? = some c → us[j]? = some u → TVR κ c u) ∧ (∀ u ∈ us, u.oneCell' = true) ∧ ¬ κ.F b ∧ ∀ a, κ.prot a → a.block ≠ b
  | .map _ _ es => ∃ (b : Nat) (ms : Array MapEntry) (clock : Nat), κ.tk k = .map (some b) ∧ κ.w.heap[b]? = some (.map ms clock) ∧ ms.size = es.length ∧
      (∀ (j : Nat) (p : Int × TV) (e : MapEntry), es[j]? = some p → ms[j]? = some e → e.key = .int .i64 p.1 ∧ TVR κ p.2 e.val) ∧ ¬ κ.F b ∧ ∀ a, κ.prot a → a.block ≠ b
  | .row e sz => κ.tk k = .slice none 0 0 ∨ ∃ (b n c : Nat) (cur : Array Value), κ.tk k = .slice (some ⟨b, 0, none⟩) n c ∧ κ.w.heap[b]? = some (.cells cur e (0, 0)) ∧
      n ≤ c ∧ c ≤ maxLen ∧ cur.size = c * sz ∧ ¬ κ.F b ∧ ∀ a, κ.prot a → a.block = b → a.off < n * sz
  | .mrow e sz xs => ∃ (A : Option Addr) (c : Nat) (us : List Value), κ.tk k = .tuple ⟨[.slice A xs.length c]⟩ ∧ us.length = xs.length * sz ∧ (∀ x ∈ xs, x.cells.length = sz) ∧ (∀ u ∈ us, u.oneCell' = true) ∧
      (∀ (j : Nat) (x : IV) (u : Value), (xs.flatMap IV.cells)[j]? = some x → us[j]? = some u → IVR κ.w κ.prot x u) ∧
      ((A = none ∧ xs = [] ∧ c = 0) ∨ ∃ (b : Nat) (cur : Array Value), A = some ⟨b, 0, none⟩ ∧ κ.w.heap[b]? = some (.cells cur e (0, 0)) ∧ xs.length ≤ c ∧ c ≤ maxLen ∧ cur.size = c * sz ∧ cur.toList.take (xs.length * sz) = us ∧
        ¬ κ.F b ∧ ∀ a, κ.prot a → a.block ≠ b)
  | .lp s ps as bd env => ∃ (b d : Nat) (fn : FuncId) (tmps : Array Value), κ.tk k = .func (.yield b) #[] #[] ∧
      κ.w.heap[b]? = some (.loop { state := lpS s, pending := none, fn := fn, tmps := tmps, params := ps.toArray, assign := as, body := bd, defers := d }) ∧
      (tmps.size = s / 4 ∧ ∀ i, TVR κ (look .any env i) (tmps.getD i undef)) ∧ ¬ κ.F b ∧ ∀ a, κ.prot a → a.block ≠ b

  | .lrow e sz v xs => κ.tk k = v ∧ IVR κ.w κ.prot (.sl sz xs) v ∧ (κ.tk k = .slice none 0 0 ∨ ∃ (b n c : Nat) (cur : Array Value), κ.tk k = .slice (some ⟨b, 0, none⟩) n c ∧ κ.w.heap[b]? = some (.cells cur e (0, 0)) ∧
      n ≤ c ∧ c ≤ maxLen ∧ cur.size = c * sz ∧ ¬ κ.F b ∧ ∀ a, κ.prot a → a.block = b → a.off < n * sz)
  | .pins e rs => κ.tk k = .tuple ⟨.bool true :: pinToks rs⟩ ∧ pinNd rs ∧ ∀ b xs, (b, xs) ∈ rs → PinR κ e b xs

structure RelO (κ : Kx) (obj : List (Nat × Ob)) : Prop where
  obs : ∀ k o, look? obj k = some o → k < κ.n ∧ ObR κ k o
  dis : ∀ k o k' o', look? obj k = some o → look? obj k' = some o' → k ≠ k' → ∀ b, Own (κ.tk k) b → ¬ Own (κ.tk k') b
  nd : keysNd obj
  prot : ∀ a, κ.prot a → (κ.w.cell? a).isSome = true
  fr : ∀ b, κ.F b → b < κ.w.heap.size

/-- What is deferred: marks of loops over functions, and the calls that the frame is known to have deferred. -/
def Marks (κ : Kx) (ds : List Deferred) : Prop :=
  κ.F.bd.1 ≤ κ.w.heap.size ∧ ∃ Ds : List Nat, ds = Ds.map (fun D => { target := .collected D, args := #[] }) ++ κ.F.bd.2 ∧ Ds.Nodup ∧ ∀ D ∈ Ds, κ.F D ∧ κ.F.bd.1 ≤ D ∧ κ.w.heap[D]? = some (.deferred (some []))
structure Rel (κ : Kx) (N : Nat) (st : St) (a : Act) : Prop where
  o : RelO κ st.obj
  env : ∀ i, TVR κ (st.get i) (a.tmps.getD i undef)
  size : a.tmps.size = N
  nodef : Marks κ a.defers
  nx : κ.n = st.nx

structure Ext (κ κ' : Kx) : Prop where
  os : κ'.w.os = κ.w.os
  tape : κ'.w.tape = κ.w.tape
  output : κ'.w.output = κ.w.output
  size : κ.w.heap.size ≤ κ'.w.heap.size
  F : (∀ b, κ.F b → κ'.F b) ∧ κ'.F.bd = κ.F.bd
  fr : ∀ b, κ.F b → κ'.w.heap[b]? = κ.w.heap[b]?
  prot : ∀ a, κ.prot a → κ'.prot a ∧ κ'.w.cell? a = κ.w.cell? a
  np : ∀ a, κ'.prot a → κ.prot a ∨ ¬ κ.F a.block

/-- The objects below m that are variables stay where they are. -/
structure Keep (m : Nat) (κ κ' : Kx) : Prop where
  n : m ≤ κ'.n
  tk : ∀ k, k < m → isPtr (κ.tk k) = true → κ'.tk k = κ.tk k

/-- Code, carried out in a pure state: whatever world it stands for. -/
def PWpF (r : Option Nat) (P : Program) (N m : Nat) (c : Code) (Q : Exit → St → Prop) (st : St) : Prop :=
  ∀ (κ : Kx) (a : Act), Rel κ N st a → m ≤ κ.n →
    c.wpIn { Fence.wide with round := r } 0 P (fun e a' w' => ∃ κ' st', κ'.w = w' ∧ Rel κ' N st' a' ∧ Ext κ κ' ∧ Keep m κ κ' ∧ Q e st') a κ.w

abbrev PWp (P : Program) (N m : Nat) (c : Code) (Q : Exit → St → Prop) (st : St) : Prop := PWpF none P N m c Q st

/-- A function that can be called. -/
def Callable (P : Program) (f : FuncId) : Prop := ∃ fn c, P.funcs[f]? = some fn ∧ fn.body = some c ∧ (fn.name == "runtime.NumGoroutine") = false

/-- A call, as whoever calls meets it, which ends in such a way. -/
def PCallE (E : Value → Ending) (P : Program) (m : Nat) (f : FuncId) (args : List TV) (st : St) (K : TV → St → Prop) : Prop :=
  Callable P f ∧ ∀ (κ : Kx) (N : Nat) (a : Act) (vs : List Value), Rel κ N st a → m ≤ κ.n → vs.length = args.length → (∀ (j : Nat) (t : TV) (v : Value), args[j]? = some t → vs[j]? = some v → TVR κ t v) →
    Calls P f vs.toArray κ.w (fun e w' => ∃ κ' v t st', e = E v ∧ κ'.w = w' ∧ Rel κ' N st' a ∧ Ext κ κ' ∧ Keep m κ κ' ∧ TVR κ' t v ∧ K t st')
abbrev PCall (P : Program) (m : Nat) (f : FuncId) (args : List TV) (st : St) (K : TV → St → Prop) : Prop := PCallE .returned P m f args st K

def csOk (n : Nat) : List TV → Prop
  | [] => True
  | t :: l => t.okN n = true ∧ csOk n l
def obOk (n : Nat) : Ob → Prop
  | .box _ cs => csOk n cs
  | .row _ _ => True
  | .map _ _ es => envOk n es
  | .mrow _ _ _ => True
  | .pins _ _ => True
  | .lrow _ _ _ _ => True
  | .lp _ _ _ _ env => envOk n env

/-- A function's contract, in names of its own: objects below n come in, those below n' are there behind it. -/
def PCE (E : Value → Ending) (P : Program) (f : FuncId) (args : List TV) (obs : List (Nat × Ob)) (n n' : Nat) (R : TV → List (Nat × Ob) → Prop) : Prop :=
  Callable P f ∧ ∀ (κ : Kx) (vs : List Value), RelO κ obs → κ.n = n → vs.length = args.length → (∀ (j : Nat) (t : TV) (v : Value), args[j]? = some t → vs[j]? = some v → TVR κ t v) →
    Calls P f vs.toArray κ.w (fun e w' => ∃ κ' v t obs', e = E v ∧ κ'.w = w' ∧ RelO κ' obs' ∧ (∀ k o, look? obs' k = some o → obOk n' o) ∧ κ'.n = n' ∧ Ext κ κ' ∧ Keep n κ κ' ∧ t.okN n' = true ∧ TVR κ' t v ∧ R t obs')
abbrev PC (P : Program) (f : FuncId) (args : List TV) (obs : List (Nat × Ob)) (n n' : Nat) (R : TV → List (Nat × Ob) → Prop) : Prop := PCE .returned P f args obs n n' R
/-- A loop's body, as whoever calls it meets it: a round. -/
def PYield (P : Program) (m k : Nat) (args : List TV) (st : St) (K : TV → St → Prop) : Prop :=
  ∀ (κ : Kx) (N : Nat) (a : Act) (vs : List Value) (b : Nat), Rel κ N st a → m ≤ κ.n → κ.tk k = .func (.yield b) #[] #[] → vs.length = args.length → (∀ (j : Nat) (t : TV) (v : Value), args[j]? = some t → vs[j]? = some v → TVR κ t v) →
    ∃ fn tmps as bd, (Instr.yield b vs.toArray).run P κ.w = .ok (.round b fn tmps as bd) κ.w ∧
      RoundIn Fence.wide 0 P b fn tmps as bd κ.w (fun e w' => ∃ κ' v t st', e = .returned v ∧ κ'.w = w' ∧ Rel κ' N st' a ∧ Ext κ κ' ∧ Keep m κ κ' ∧ TVR κ' t v ∧ K t st')
/-- What a region's call meets: a function, or a loop's body. -/
def PG (P : Program) (m : Nat) : Cal → List TV → St → (TV → St → Prop) → Prop
  | .fn f, args, st, K => PCall P m f args st K
  | .yl k, args, st, K => PYield P m k args st K
  | .ct k o, _, st, K => K (.mrow st.nx) (st.moved k o)
  | .pn k e rs xs, _, st, K => ∀ b, (∀ ys, (b, ys) ∉ rs) → K (.iv (.lit (.slice (some ⟨b, 0, none⟩) xs.length xs.length))) ⟨st.env, (st.nx + 1, .pins e (rs ++ [(b, xs)])) :: rmAt st.obj k, st.nx + 2⟩
  | .la k e sz xs, _, st, K => ∀ v, v.oneCell' = true → K (.iv (.lit v)) ((st.dem k).setOb k (.lrow e sz v xs))
end Go.PL
