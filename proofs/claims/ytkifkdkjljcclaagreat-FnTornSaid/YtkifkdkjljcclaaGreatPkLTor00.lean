/- The translation 'T' of a function's loaded code into combinators over an abstract state ('Comb'), and its soundness: what T says under the real combinators is the machine's wp. Conditions: none; regions that draw their order are walked in one order where their operations leave the world alone, else in every order. -/
import Derived.Orders
import Derived.Still
import Derived.Deep.LoopGhost
import Derived.Scope
import Derived.Laws.Cells
import Derived.Laws.World
import Derived.Laws.Entries
import Derived.KernelRfl
namespace Go.Sx

inductive Sh where
  | int (k : IntKind) | bool | slice | ptr | optr | agg | str | val
structure Sl where
  a : Option Addr
  n : Nat
  c : Nat
@[reducible] def Sh.T : Sh → Type
  | .int _ => Int | .bool => Bool | .slice => Sl | .ptr => Addr | .optr => Option Addr | .agg => Array Value | .str => ByteArray | .val => Value
def Sh.emb : (s : Sh) → s.T → Value
  | .int k, n => .int k n | .bool, b => .bool b | .slice, s => .slice s.a s.n s.c | .ptr, a => .pointer (some a) | .optr, a => .pointer a | .agg, cs => .agg cs | .str, s => .string s | .val, v => v
@[reducible] def TL : List Sh → Type
  | [] => Unit
  | [s] => s.T
  | s :: t :: r => s.T × TL (t :: r)
def embL : (l : List Sh) → TL l → List Value
  | [], _ => []
  | [s], x => [s.emb x]
  | s :: t :: r, x => s.emb x.1 :: embL (t :: r) x.2
def valL : List Value → Value
  | [v] => v
  | l => .tuple l.toArray
def nullP (P : Program) (e : TypeId) : Bool := match P.underlying e with
  | some .string => true
  | some (.struct fs) => fs.toList.any fun f => match P.underlying f.type with | some (.pointer g) => Nat.beq g e | _ => false
  | _ => false
def ptrSh : Bool → Sh | true => .optr | false => .ptr
def shD (P : Program) : TypeDesc → Sh
  | .int k => .int k | .bool => .bool | .slice _ => .slice | .pointer e => ptrSh (nullP P e) | .struct _ => .agg | .array _ _ => .agg | .string => .str | _ => .val
def shOf (P : Program) (t : TypeId) : Sh := match P.underlying t with | some d => shD P d | none => .val
def shTup (P : Program) (t : TypeId) : Sh := match shOf P t with | .ptr => .optr | s => s
def tyOf (P : Program) (t : TypeId) : Option (Sh × Nat) :=
  match P.underlying t with
  | some d => match P.info? t with
    | some i => some (shD P d, i.size)
    | none => none
  | none => none
def shsOf (P : Program) (t : TypeId) : List Sh :=
  match P.underlying t with
  | some (.tuple ts) => ts.toList.map (shTup P)
  | _ => [shOf P t]

inductive Env where
  | nil
  | put (k : Nat) (v : Value) (e : Env)
  | junk (ks : List Nat) (j : Nat → Value) (e : Env)
def Env.get : Env → Nat → Value
  | .nil, _ => undef
  | .put k v e, t => bif Nat.beq k t then v else e.get t
  | .junk ks j e, t => bif ks.any (fun k => Nat.beq k t) then j t else e.get t
def Env.set (e : Env) : Option Tmp → Value → Env
  | some d, v => .put d v e
  | none, _ => e
def Env.sets (e : Env) : List Nat → List Value → Env
  | k :: ks, v :: vs => .put k v (e.sets ks vs)
  | _, _ => e
def ev (e : Env) : Operand → Value
  | .tmp t => e.get t
  | .const v => v
  | .global g => .pointer (some ⟨g, 0, none⟩)
  | .func f => .func (.func f) #[] #[]
def evs (e : Env) (l : Array Operand) : List Value := l.toList.map (ev e)

structure Held where
  op : Nat
  n : Nat
  p : Addr
  sh : Sh
  x : sh.T

structure Comb where
  St : Type
  fail : St
  all : List St → St
  draw : St → St
  ld : (sh : Sh) → Nat → Addr → (sh.T → St) → St
  st : Nat → Addr → Value → St → St
  new : TypeId → Value → (Nat → St) → St
  ix : Option Addr → Nat → Nat → Int → (Addr → St) → St
  ixS : ByteArray → Int → (Int → St) → St
  ixV : (sh : Sh) → Array Value → Nat → Nat → Int → (sh.T → St) → St
  sl : Option Addr → Nat → Nat → Nat → Option Int → Option Int → Option Int → (Sl → St) → St
  slS : ByteArray → Option Int → Option Int → (ByteArray → St) → St
  fld : (sh : Sh) → Array Value → Nat → (sh.T → St) → St
  call : FuncId → List Value → (l : List Sh) → (TL l → St) → St
  callQ : FuncId → List Value → (l : List Sh) → (TL l → St) → St
  callP : FuncId → List Value → (l : List Sh) → (TL l → St) → St
  chk : List Held → St → St
  callV : Value → List Value → (l : List Sh) → (TL l → St) → St
  sem : Sem Value → (sh : Sh) → (sh.T → St) → St
  semL : Sem Value → (l : List Sh) → (TL l → St) → St
  eff : Sem Unit → St → St
  ext : FuncId → List Value → (l : List Sh) → (TL l → St) → St
  pur : Sem Value → (sh : Sh) → (sh.T → St) → St
  ret : Value → St
  loop : (σ : Type) → (σ → List Value) → List Value → (σ → (List Value → St) → St) → St
  join : (σ : Type) → (σ → List Value) → (σ → St) → ((List Value → St) → St) → St
  any : ((Nat → Value) → St) → St

def Comb.q (C : Comb) : Comb := { C with call := C.callQ, callV := fun _ _ _ _ => C.fail, st := fun _ _ _ _ => C.fail, new := fun _ _ _ => C.fail, sem := fun _ _ _ => C.fail, semL := fun _ _ _ => C.fail, eff := fun _ _ => C.fail, ext := fun _ _ _ _ => C.fail }

def dpT (C : Comb) (o : Option Addr) (k : Addr → C.St) : C.St := match o with | some a => k a | none => C.fail

def bitsI (op : BinOp) (k : IntKind) (x y : Int) : Int :=
  let a := BitVec.ofInt k.bits x
  let b := BitVec.ofInt k.bits y
  k.wrap (match op with | .and => (a &&& b).toNat | .or => (a ||| b).toNat | .xor => (a ^^^ b).toNat | _ => (a &&& ~~~b).toNat : Nat)

def isConst : Operand → Bool
  | .const _ => true
  | _ => false

def intOp (op : BinOp) (k : IntKind) (a b : Int) (c : Bool) : Option Value :=
  match op with
  | .add => some (.int k (k.wrap (a + b)))
  | .sub => some (.int k (k.wrap (a - b)))
  | .mul => some (.int k (k.wrap (a * b)))
  | .and => some (.int k (bitsI .and k a b))
  | .or => some (.int k (bitsI .or k a b))
  | .xor => some (.int k (bitsI .xor k a b))
  | .andNot => some (.int k (bitsI .andNot k a b))
  | .eql => some (.bool (a == b))
  | .neq => some (.bool (a != b))
  | .lss => some (.bool (a < b))
  | .leq => some (.bool (a ≤ b))
  | .gtr => some (.bool (a > b))
  | .geq => some (.bool (a ≥ b))
  | .quo => bif c then (if b = 0 then none else some (.int k (k.wrap (a.tdiv b)))) else none
  | .rem => bif c then (if b = 0 then none else some (.int k (a.tmod b))) else none
  | _ => none

def shiftOp (op : BinOp) (k : IntKind) (a b : Int) (c : Bool) : Option Value :=
  match op with
  | .shl => bif c then (if b < 0 then none else some (.int k (k.wrap (a * 2 ^ (min b.toNat k.bits))))) else none
  | .shr => bif c then (if b < 0 then none else some (.int k (a.fdiv (2 ^ (min b.toNat k.bits))))) else none
  | _ => none

def eqB (op : BinOp) (t : TypeId) (x y : Operand) (a b : Value) : Sem Value := do
  eqGuard op t x y a b
  binOp op t a b

def boolSh (op : BinOp) : Bool := match op with | .eql | .neq | .lss | .leq | .gtr | .geq => true | _ => false

def intOf (v : Value) : Int := match v with | .int _ n => n | _ => -1

def zeroOf (P : Program) (t : TypeId) : Option Value := (P.info? t).bind (·.zero)

def pT (C : Comb) (P : Program) (o : Oper) (e : Env) (k : Value → C.St) : Option C.St :=
  match o.op with
  | .move x => some (k (ev e x))
  | .assign x => some (k (ev e x))
  | .pick c x y => match ev e c with
    | .bool b => some (k (bif b then ev e x else ev e y))
    | _ => none
  | .nilCheck x => match ev e x with
    | .pointer o => some (dpT C o fun a => k (.pointer (some a)))
    | _ => none
  | .binOp op t x y _ => match ev e x, ev e y with
    | .int kx a, .int ky b => match shiftOp op kx a b (isConst y) with
      | some v => some (k v)
      | none => match intOp op kx a b (isConst y), decide (kx = ky) with
        | some v, true => some (k v)
        | _, _ => some (C.pur (eqB op t x y (.int kx a) (.int ky b)) (.int kx) (fun n => k (.int kx n)))
    | v, u => match boolSh op with
      | true => some (C.pur (eqB op t x y v u) .bool (fun b => k (.bool b)))
      | false => some (C.pur (eqB op t x y v u) (shOf P t) (fun b => k ((shOf P t).emb b)))
  | .build t ps => match ps.toList with
    | [] => match zeroOf P t, P.underlying t with
      | some (.agg _), some (.struct _) => some (C.pur (Instr.build t #[]) .agg (fun x => k (.agg x)))
      | some (.agg z), some (.array _ el) => match tyOf P el with
        | some _ => some (k (.agg z))
        | none => none
      | _, _ => none
    | l => some (C.pur (Instr.build t (l.map fun x => (x.1, ev e x.2)).toArray) .agg (fun x => k (.agg x)))
  | .sliceToArrayPointer t x => some (C.pur (Instr.arrayAt t (ev e x)) .ptr (fun x => k (.pointer (some x))))
  | .makeInterface t x => some (C.pur (Instr.makeInterface t (ev e x)) .val k)
  | .typeAssert x t u ok => some (C.pur (Instr.typeAssert (ev e x) t u ok) .val k)
  | .unOp .not _ x => match ev e x with
    | .bool b => some (k (.bool !b))
    | _ => none
  | .unOp .neg _ x => match ev e x with
    | .int kx a => some (k (.int kx (kx.wrap (0 - a))))
    | _ => none
  | .convert s d x => match P.underlying s, P.underlying d, ev e x with
    | some _, some (.int kd), .int _ n => some (k (.int kd (kd.wrap n)))
    | _, _, _ => none
  | .makeFunc fn fs cs => some (k (.func fn (evs e fs).toArray (evs e cs).toArray))
  | .extract t i => match ev e t with
    | .tuple vs => match vs.toList[i]? with | some v => some (k v) | none => none
    | _ => none
  | .fieldAddr s x f => match P.underlying s, ev e x with
    | some (.struct fs), .pointer o => match fs.toList[f]? with
      | some fd => match tyOf P fd.type with
        | some (_, _ + 1) => some (dpT C o fun a => k (.pointer (some (a.add fd.offset))))
        | _ => none
      | none => none
    | _, _ => none
  | .field s x f => match P.underlying s, ev e x with
    | some (.struct fs), .agg cs => match fs.toList[f]? with
      | some fd => match tyOf P fd.type with
        | some (.agg, n) => some (k (.agg (cs.extract fd.offset (fd.offset + n))))
        | some (sh, _) => some (C.fld sh cs fd.offset (fun x => k (sh.emb x)))
        | none => none
      | none => none
    | _, _ => none
  | .indexAddr t x i => match P.underlying t, ev e x, ev e i with
    | some (.slice el), .slice a n _, .int _ j => match tyOf P el with
      | some (_, z) => some (C.ix a n z j (fun p => k (.pointer (some p))))
      | none => none
    | some (.array n el), .pointer o, .int _ j => match tyOf P el with
      | some (_, z) => some (C.ix o n z j (fun p => k (.pointer (some p))))
      | none => none
    | _, _, _ => none
  | .index t x i => match P.underlying t, ev e x, ev e i with
    | some .string, .string s, .int _ j => some (C.ixS s j (fun b => k (.int .u8 b)))
    | some (.array n el), .agg cs, .int _ j => match tyOf P el with
      | some (.agg, _) => none
      | some (sh, z) => some (C.ixV sh cs n z j (fun x => k (sh.emb x)))
      | none => none
    | _, _, _ => none
  | .slice t x lo hi mx => match P.underlying t, ev e x with
    | some (.slice el), .slice a n c => match tyOf P el, (mx.isNone || hi.isSome) with
      | some (_, z), true => some (C.sl a n c z (lo.map fun y => intOf (ev e y)) (hi.map fun y => intOf (ev e y)) (mx.map fun y => intOf (ev e y)) (fun s => k (.slice s.a s.n s.c)))
      | _, _ => none
    | some (.array n el), .pointer o => match tyOf P el, (mx.isNone || hi.isSome) with
      | some (_, z), true => some (dpT C o fun a => C.sl (some a) n n z (lo.map fun y => intOf (ev e y)) (hi.map fun y => intOf (ev e y)) (mx.map fun y => intOf (ev e y)) (fun s => k (.slice s.a s.n s.c)))
      | _, _ => none
    | some .string, .string s => match mx with
      | none => some (C.slS s (lo.map fun y => intOf (ev e y)) (hi.map fun y => intOf (ev e y)) (fun s => k (.string s)))
      | some _ => none
    | _, _ => none
  | .call { callee := .builtin .cap, args, argTypes } => match argTypes.toList, evs e args with
    | [t], [.slice _ _ c] => match P.underlying t with | some (.slice _) => some (k (.int .i64 c)) | _ => none
    | _, _ => none
  | .call { callee := .builtin .len, args, argTypes } => match argTypes.toList, evs e args with
    | [t], [.slice _ n _] => match P.underlying t with | some (.slice _) => some (k (.int .i64 n)) | _ => none
    | [t], [.string s] => match P.underlying t with | some .string => some (k (.int .i64 s.size)) | _ => none
    | _, _ => none
  | _ => none

def isGo (P : Program) (g : FuncId) : Bool :=
  match P.funcs[g]? with
  | some fn => fn.body.isSome && (fn.name != "runtime.NumGoroutine")
  | none => false

def wT (C : Comb) (P : Program) (o : Oper) (e : Env) (k : Value → C.St) : C.St :=
  match o.op with
  | .load t x => match ev e x, tyOf P t with
    | .pointer o, some (sh, n) => dpT C o fun a => C.ld sh n a (fun x => k (sh.emb x))
    | _, _ => C.fail
  | .store t x y => match ev e x, tyOf P t with
    | .pointer o, some (_, n) => dpT C o fun a => C.st n a (ev e y) (k undef)
    | _, _ => C.fail
  | .box t x => C.new t (ev e x) (fun b => k (.pointer (some ⟨b, 0, none⟩)))
  | .alloc t => match zeroOf P t with
    | some z => C.new t z (fun b => k (.pointer (some ⟨b, 0, none⟩)))
    | none => C.fail
  | .buildSlice t n ps => C.sem (Instr.buildSlice t n (ps.toList.map fun x => (x.1, ev e x.2)).toArray) .slice (fun x => k (.slice x.a x.n x.c))
  | .makeSlice t l c => C.sem (Instr.makeSlice t (ev e l) (ev e c)) .slice (fun x => k (.slice x.a x.n x.c))
  | .convert s d x => C.sem (convert s d (ev e x)) (shOf P d) (fun b => k ((shOf P d).emb b))
  | .makeMap t r => C.sem (Instr.makeMap t ((r.toList.map (ev e))[0]?)) .val k
  | .lookup t x i ok => match P.underlying t with
    | some (.map _ el) => C.semL (Instr.lookup t (ev e x) (ev e i) ok) (cond ok [shOf P el, .bool] [shOf P el]) (fun x => k (valL (embL _ x)))
    | _ => C.fail
  | .mapUpdate t m i y => C.eff (Instr.mapUpdate t (ev e m) (ev e i) (ev e y)) (k undef)
  | .insert t m i y => C.eff (Instr.mapUpdate t (ev e m) (ev e i) (ev e y)) (k undef)
  | .call { callee := .builtin .clear, args, argTypes } => C.sem (Builtin.clear_ argTypes o.type (evs e args).toArray) .val k
  | .call { callee := .builtin .len, args, argTypes } => C.sem (Builtin.len_ argTypes o.type (evs e args).toArray) (.int .i64) (fun n => k (.int .i64 n))
  | .call { callee := .builtin .append, args, argTypes } => C.sem (Builtin.append_ argTypes o.type (evs e args).toArray) .slice (fun x => k (.slice x.a x.n x.c))
  | .call { callee := .builtin .copy, args, argTypes } => C.sem (Builtin.copy_ argTypes o.type (evs e args).toArray) (.int .i64) (fun n => k (.int .i64 n))
  | .call { callee := .builtin .min, args, argTypes } => C.sem (Builtin.min_ argTypes o.type (evs e args).toArray) (shOf P o.type) (fun b => k ((shOf P o.type).emb b))
  | .call { callee := .builtin .max, args, argTypes } => C.sem (Builtin.max_ argTypes o.type (evs e args).toArray) (shOf P o.type) (fun b => k ((shOf P o.type).emb b))
  | .call { callee := .value f, args, .. } => match f with
    | .func g => (match isGo P g with
      | true => C.call g (evs e args) (shsOf P o.type) (fun x => k (valL (embL _ x)))
      | false => C.ext g (evs e args) (shsOf P o.type) (fun x => k (valL (embL _ x))))
    | f => C.callV (ev e f) (evs e args) (shsOf P o.type) (fun x => k (valL (embL _ x)))
  | _ => C.fail

def opT (C : Comb) (P : Program) (o : Oper) (e : Env) (k : Value → C.St) : C.St :=
  match pT C P o e k with
  | some s => s
  | none => wT C P o e k

def gT (C : Comb) (P : Program) (ops : Array Oper) (o : Oper) (e : Env) (k : Env → C.St) : C.St :=
  match o.guard with
  | none => opT C P o e (fun v => k (e.set o.dst v))
  | some (j, want) => match (ops.toList[j]?).bind (·.dst) with
    | none => C.fail
    | some d => match e.get d with
      | .bool b => cond b
          (cond want (opT C P o (.put d (.bool true) e) (fun v => k ((Env.put d (.bool true) e).set o.dst v))) (k ((Env.put d (.bool true) e).set o.dst undef)))
          (cond want (k ((Env.put d (.bool false) e).set o.dst undef)) (opT C P o (.put d (.bool false) e) (fun v => k ((Env.put d (.bool false) e).set o.dst v))))
      | .tuple _ => k (e.set o.dst undef)
      | _ => C.fail

def orF (C : Comb) (s : Option C.St) : C.St := match s with | some s => s | none => C.fail

def gpT (C : Comb) (P : Program) (ops : Array Oper) (o : Oper) (e : Env) (k : Env → C.St) : C.St :=
  match o.guard with
  | none => orF C (pT C P o e (fun v => k (e.set o.dst v)))
  | some (j, want) => match (ops.toList[j]?).bind (·.dst) with
    | none => C.fail
    | some d => match e.get d with
      | .bool b => cond b
          (cond want (orF C (pT C P o (.put d (.bool true) e) (fun v => k ((Env.put d (.bool true) e).set o.dst v)))) (k ((Env.put d (.bool true) e).set o.dst undef)))
          (cond want (k ((Env.put d (.bool false) e).set o.dst undef)) (orF C (pT C P o (.put d (.bool false) e) (fun v => k ((Env.put d (.bool false) e).set o.dst v)))))
      | .tuple _ => k (e.set o.dst undef)
      | _ => C.fail

def opsT (C : Comb) (P : Program) (ops : Array Oper) (K : Env → C.St) : List Oper → Env → C.St
  | [], e => K e
  | o :: r, e => gT C P ops o e (fun e => opsT C P ops K r e)

def worldless (o : Op) : Bool :=
  match o with
  | .move _ | .assign _ | .pick .. | .nilCheck _ | .binOp .. | .unOp .. | .convert .. | .makeFunc .. | .extract .. | .fieldAddr .. | .field .. | .indexAddr .. | .index .. | .slice .. | .build .. | .sliceToArrayPointer .. | .makeInterface .. | .typeAssert .. => true
  | .call { callee := .builtin .len, .. } => true
  | .call { callee := .builtin .cap, .. } => true
  | _ => false

inductive First where
  | pure | load (t : TypeId) (x : Operand) | call (f : FuncId) (args : Array Operand) | no
def wless (P : Program) (o : Op) : Bool := match o with
  | .convert s d _ => (match P.underlying s, P.underlying d with | some (.int _), some (.int _) => true | _, _ => false)
  | o => worldless o
def firstOf (P : Program) (pure : List FuncId) (o : Oper) : First :=
  bif wless P o.op then .pure else
  match o.guard with
  | some _ => .no
  | none => match o.op with
    | .load t x => .load t x
    | .call { callee := .value (.func f), args, .. } => bif pure.any (fun k => Nat.beq k f) then .call f args else .no
    | _ => .no
def isFirst (P : Program) (pure : List FuncId) (o : Oper) : Bool := match firstOf P pure o with | .no => false | _ => true

def indep (ops : Array Oper) (j i : Nat) : Bool := match ops.toList[j]? with
  | some o => !(o.after.toList.any fun e => Region.binds .any e && Nat.beq e.on i)
  | none => true

def chkT (C : Comb) (H : List Held) (s : C.St) : C.St := match H with | [] => s | h :: r => C.chk (h :: r) s

def allT (C : Comb) (l : List C.St) : C.St := match l with | [s] => s | l => C.all l

def anyT (C : Comb) (P : Program) (pure : List FuncId) (ops : Array Oper) (K : Env → C.St) : Nat → Array Bool → List Nat → List Held → Env → C.St
  | 0, listed, _, _, e => match Region.ready .any ops listed with | [] => K e | _ => C.fail
  | fuel + 1, listed, E, H, e =>
    match Region.ready .any ops listed with
    | [] => K e
    | i :: is =>
      match (i :: is).find? (fun i => (match ops.toList[i]? with | some o => isFirst P pure o | none => false) && Region.free .any ops listed i && E.all (fun k => indep ops k i)) with
      | some i => (match ops.toList[i]? with
        | some o => match firstOf P pure o with
          | .pure => gpT C P ops o e (fun e => anyT C P pure ops K fuel (listed.setIfInBounds i true) E H e)
          | .load t x => (match ev e x, tyOf P t with
            | .pointer q, some (sh, n) => dpT C q fun a => C.ld sh n a (fun x => anyT C P pure ops K fuel (listed.setIfInBounds i true) E (⟨i, n, a, sh, x⟩ :: H) (e.set o.dst (sh.emb x)))
            | _, _ => C.fail)
          | .call f args => (match isGo P f with
            | true => C.callP f (evs e args) (shsOf P o.type) (fun x => anyT C P pure ops K fuel (listed.setIfInBounds i true) E H (e.set o.dst (valL (embL _ x))))
            | false => C.fail)
          | .no => C.fail
        | none => C.fail)
      | none => allT C ((i :: is).map fun i => match ops.toList[i]? with
        | some o => gT C P ops o e (fun e => chkT C (H.filter fun h => (i :: E).all fun k => indep ops k h.op) (anyT C P pure ops K fuel (listed.setIfInBounds i true) (i :: E) H e))
        | none => C.fail)

def dstsO (l : List Oper) : List Nat := l.filterMap (·.dst)
def dsts : Code → List Nat
  | .region _ ops _ => dstsO ops.toList
  | .seq a b => dsts a ++ dsts b
  | .cond _ a b => dsts a ++ dsts b
  | .block _ c => dsts c
  | .loop c => dsts c
  | .scope c => dsts c
  | _ => []
def firstReg : Code → Nat
  | .region id _ _ => id
  | .seq a _ => firstReg a
  | .cond _ a _ => firstReg a
  | .block _ c => firstReg c
  | .loop c => firstReg c
  | .scope c => firstReg c
  | _ => 0
def key : Code → Nat
  | .cond (.tmp t) _ _ => 3 * t
  | .region id _ _ => 3 * id + 1
  | .block _ c => 3 * firstReg c + 2
  | .seq _ b => key b
  | _ => 0

structure Tab where
  loop : List (Nat × List (Nat × Sh))
  join : List (Nat × List (Nat × Sh)) := []
  anyOrder : List Nat := []
  pure : List FuncId := []

def look (l : List (Nat × List (Nat × Sh))) (k : Nat) : Option (List (Nat × Sh)) := (l.find? fun x => Nat.beq x.1 k).map (·.2)

def slots (L : List (Nat × Sh)) : List Nat := L.map (·.1)
def shs (L : List (Nat × Sh)) : List Sh := L.map (·.2)

def frame (e : Env) (L : List (Nat × Sh)) (ds : List Nat) (s : TL (shs L)) (j : Nat → Value) : Env := (Env.junk ds j e).sets (slots L) (embL (shs L) s)

def T (C : Comb) (P : Program) (tab : Tab) : Code → (Exit → Env → C.St) → Env → C.St
  | .skip, Q, e => Q .normal e
  | .label _, Q, e => Q .normal e
  | .ret, Q, e => Q .ret e
  | .exit id, Q, e => Q (.exit id) e
  | .region id ops draw, Q, e =>
    match draw with
    | false => opsT C P ops (Q .normal) ops.toList e
    | true => match tab.anyOrder.any (fun k => Nat.beq k id) with
      | true => C.draw (match Region.noSelect ops with | true => anyT C P tab.pure ops (Q .normal) ops.size (Array.replicate ops.size false) [] [] e | false => C.fail)
      | false => C.draw (match Region.lexB .any ops with | true => opsT C.q P ops (Q .normal) ops.toList e | false => C.fail)
  | .seq x y, Q, e => match look tab.join (key x) with
    | none => T C P tab x (fun ex e' => match ex with | .normal => T C P tab y Q e' | ex => Q ex e') e
    | some L => C.join (TL (shs L)) (embL (shs L)) (fun s => C.any fun j => T C P tab y Q (frame e L (dsts x) s j))
        (fun jt => T C P tab x (fun ex e' => match ex with | .normal => jt ((slots L).map e'.get) | ex => Q ex e') e)
  | .cond c x y, Q, e => match ev e c with
    | .bool b => cond b (T C P tab x Q e) (T C P tab y Q e)
    | _ => C.fail
  | .block id c, Q, e => T C P tab c (fun ex e' => match ex with | .exit i => (match Nat.beq i id with | true => Q .normal e' | false => Q (.exit i) e') | ex => Q ex e') e
  | .loop c, Q, e => match look tab.loop (firstReg c) with
    | none => C.fail
    | some L => C.loop (TL (shs L)) (embL (shs L)) ((slots L).map e.get) (fun s ct => C.any fun j =>
        T C P tab c (fun ex e' => match ex with | .normal => ct ((slots L).map e'.get) | ex => Q ex e') (frame e L (dsts c) s j))
  | .scope c, Q, e => T C P tab c (fun ex e' => match ex with | .goto _ => C.fail | ex => Q ex e') e
  | _, _, _ => C.fail

def retT (C : Comb) (P : Program) (e : Env) : List ResultVar → List Value → C.St
  | [], acc => C.ret (valL acc)
  | .tmp t :: r, acc => retT C P e r (acc ++ [e.get t])
  | .cell a t :: r, acc => match e.get a, tyOf P t with
    | .pointer (some p), some (sh, n) => C.ld sh n p (fun x => retT C P e r (acc ++ [sh.emb x]))
    | _, _ => C.fail

def envOf : Nat → List Value → Env
  | _, [] => .nil
  | i, v :: vs => .put i v (envOf (i + 1) vs)

def fT (C : Comb) (P : Program) (tab : Tab) (f : FuncId) (args : List Value) : C.St :=
  match P.funcs[f]? with
  | none => C.fail
  | some fn => match fn.body with
    | none => C.fail
    | some c => match (dsts c).all (fun d => Nat.blt d fn.ntmps) && Nat.ble args.length fn.ntmps with
      | true => T C P tab c (fun ex e => match ex with | .normal => retT C P e fn.results.toList [] | .ret => retT C P e fn.results.toList [] | _ => C.fail) (envOf 0 args)
      | false => C.fail

end Go.Sx
