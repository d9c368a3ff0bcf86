/- The abstract machine, part 10: code, calls, and what is left of the heap behind a call. -/
import Derived.Test.YtdodhmidhcpnnaaX9
set_option linter.unusedVariables false
set_option linter.unusedSimpArgs false
namespace Go.Abs

/-- one operation of a drawn region whose operations do more than look: is it quiet here; what is surely done before it; the other stages at which it may run -/
structure DM where
  q : Bool
  pre : List Nat
  ck : List Nat
  deriving Inhabited

inductive ACode where
  | stuck
  | skip
  | reg (draw : Bool) (ops : List AOper) (ks : List Nat)
  | regd (ops : List (AOper × DM)) (ks : List Nat)
  | seq (a b : ACode)
  | cond (c : Opd) (t e : ACode)
  | block (id : Nat) (ks : List Nat) (c : ACode)
  | loop (ks : List Nat) (c : ACode)
  | exit (id : Nat)
  | ret
  deriving Inhabited

inductive ARes where
  | tmp (t : Nat)
  | cell (a : Nat) (ag : Bool) (n : Nat)
  deriving Inhabited

structure AFun where
  body : ACode
  res : List ARes
  deriving Inhabited

inductive AEx where
  | normal
  | exit (id : Nat)
  | ret
  deriving Inhabited

def keep (ks : List Nat) (e : Env) : Env := ks.map fun k => (k, e.get k)
def put (e : Env) (dst : Option Nat) (v : TV) : Env := match dst with | some d => (d, v) :: e | none => e

abbrev CallA := Nat → List TV → Heap → Option (TV × Heap)

def guardOk (g : Option (Nat × Bool)) (e : Env) : Option Bool :=
  match g with
  | none => some true
  | some (s, b) => match e.get s with | [.sc (.bool t)] => some (t == b) | [.undef] => some false | _ => none

def capArgs (caps : List (Nat × Nat × Nat)) : List TV := caps.map fun p => [.sc (.ptr p.1 p.2.1 p.2.2)]

def stepC (call : CallA) (op : AOp) (e : Env) (h : Heap) : Option (TV × Heap) :=
  match op with
  | .call f args => call f (args.map (Opd.ev e)) h
  | .callv x args => match x.ev e with | [.sc (.fn f caps)] => if caps.all (fun p => freshB h p.1 p.2.2) then call f (args.map (Opd.ev e) ++ capArgs caps) h else none | _ => none
  | op => step op e h

def envOf (o : AOper) (e : Env) : Env := match o.rd with | none => e | some ks => keep ks e

def runOps (call : CallA) : List AOper → Env → Heap → Option (Env × Heap)
  | [], e, h => some (e, h)
  | o :: r, e, h => match guardOk o.guard e with
    | some true => match stepC call o.op (envOf o e) h with
      | some (tv, h') => runOps call r (put e o.dst tv) h'
      | none => none
    | some false => runOps call r (put e o.dst [.undef]) h
    | none => none

def SV.same : SV → SV → Bool
  | .bool a, .bool b => a == b
  | .int k a, .int k' b => decide (k = k') && a == b
  | .str a, .str b => a == b
  | .ptr a b c, .ptr a' b' c' => Nat.beq a a' && Nat.beq b b' && Nat.beq c c'
  | .nilp, .nilp => true
  | .sl a b c d, .sl a' b' c' d' => Nat.beq a a' && Nat.beq b b' && Nat.beq c c' && Nat.beq d d'
  | .nils, .nils => true
  | .fn f l, .fn g m => Nat.beq f g && l == m
  | _, _ => false

def sames : List SV → List SV → Bool
  | [], [] => true
  | a :: l, b :: m => a.same b && sames l m
  | _, _ => false

def AV.same : AV → AV → Bool
  | .sc a, .sc b => a.same b
  | .agg l, .agg m => sames l m
  | .imm n l, .imm n' m => Nat.beq n n' && sames l m
  | .undef, .undef => true
  | _, _ => false

def tvSame : TV → TV → Bool
  | [], [] => true
  | a :: l, b :: m => a.same b && tvSame l m
  | _, _ => false

def hpSame : Heap → Heap → Bool
  | [], [] => true
  | a :: l, b :: m => decide (a.k = b.k) && sames a.c b.c && hpSame l m
  | _, _ => false

/-- an operation that leaves the heap alone -/
def quietOp : AOp → Bool
  | .stuck | .store .. | .alloc .. | .box .. | .brow .. | .brov .. | .frz .. | .mkrow .. | .app .. | .s2b .. | .call .. | .callv .. => false
  | _ => true

structure Chk where
  ck : List Nat
  op : AOp
  e : Env
  tv : TV

def runT (call : CallA) : List (AOper × DM) → Env → Heap → Option (Env × Heap × List Heap × List Chk)
  | [], e, h => some (e, h, [h], [])
  | (o, d) :: r, e, h => match guardOk o.guard e with
    | some true => match stepC call o.op (envOf o e) h with
      | some (tv, h') => match runT call r (put e o.dst tv) h' with
        | some (e2, h2, hs, cs) => if d.q then (if quietOp o.op || hpSame h' h then some (e2, h2, hs, if d.ck.isEmpty then cs else ⟨d.ck, o.op, envOf o e, tv⟩ :: cs) else none) else some (e2, h2, h :: hs, cs)
        | none => none
      | none => none
    | some false => match runT call r (put e o.dst [.undef]) h with
      | some (e2, h2, hs, cs) => if d.q then some (e2, h2, hs, cs) else some (e2, h2, h :: hs, cs)
      | none => none
    | none => none

def chkOk (call : CallA) (hs : List Heap) (c : Chk) : Bool := c.ck.all fun t => match hs[t]? with
  | some h => (match stepC call c.op c.e h with | some (tv, h') => tvSame tv c.tv && (quietOp c.op || hpSame h' h) | none => false)
  | none => false

def runDr (call : CallA) (l : List (AOper × DM)) (e : Env) (h : Heap) : Option (Env × Heap) :=
  match runT call l e h with
  | some (e', h', hs, cs) => if cs.all (chkOk call hs) then some (e', h') else none
  | none => none

def runL (call : CallA) (loopK : ACode → Env → Heap → Option (AEx × Env × Heap)) : ACode → Env → Heap → Option (AEx × Env × Heap)
  | .stuck, e, h => none
  | .skip, e, h => some (.normal, e, h)
  | .reg _ ops ks, e, h => match runOps call ops e h with | some (e', h') => some (.normal, keep ks e', h') | none => none
  | .regd ops ks, e, h => match runDr call ops e h with | some (e', h') => some (.normal, keep ks e', h') | none => none
  | .seq a b, e, h => match runL call loopK a e h with
    | some (.normal, e', h') => runL call loopK b e' h'
    | some (.exit i, e', h') => some (.exit i, e', h')
    | some (.ret, e', h') => some (.ret, e', h')
    | none => none
  | .cond c a b, e, h => match c.ev e with
    | [.sc (.bool t)] => if t then runL call loopK a e h else runL call loopK b e h
    | _ => none
  | .block id ks c, e, h => match runL call loopK c e h with
    | some (.normal, e', h') => some (.normal, keep ks e', h')
    | some (.exit i, e', h') => if i = id then some (.normal, keep ks e', h') else some (.exit i, e', h')
    | some (.ret, e', h') => some (.ret, e', h')
    | none => none
  | .loop ks c, e, h => match runL call loopK c (keep ks e) h with
    | some (.normal, e', h') => loopK (.loop ks c) e' h'
    | some (.exit i, e', h') => some (.exit i, e', h')
    | some (.ret, e', h') => some (.ret, e', h')
    | none => none
  | .exit i, e, h => some (.exit i, e, h)
  | .ret, e, h => some (.ret, e, h)

def runC (call : CallA) : Nat → ACode → Env → Heap → Option (AEx × Env × Heap)
  | 0 => runL call fun _ _ _ => none
  | n + 1 => runL call (runC call n)

def resA (e : Env) (h : Heap) : List ARes → Option (List AV)
  | [] => some []
  | .tmp t :: r => match e.get t, resA e h r with | [v], some l => some (v :: l) | _, _ => none
  | .cell a ag n :: r => match e.get a, resA e h r with
    | [.sc (.ptr b o k)], some l => match h[b]? with
      | some B => if k = B.c.length ∧ o + n ≤ B.c.length then (if ag then some (.agg ((B.c.drop o).take n) :: l) else match B.c[o]? with | some v => some (.sc v :: l) | none => none) else none
      | none => none
    | _, _ => none

def belowS (n : Nat) : SV → Bool
  | .ptr b _ _ => Nat.blt b n
  | .sl b _ _ _ => Nat.blt b n
  | .fn _ caps => caps.all fun p => Nat.blt p.1 n
  | _ => true

def okOld (n : Nat) : Heap → Heap → Bool
  | [], _ => true
  | B :: r, C :: s => (C.c.all (belowS n) || sames B.c C.c) && okOld n r s
  | _ :: _, [] => false

def pureS : SV → Bool
  | .ptr .. => false
  | .sl .. => false
  | .fn _ caps => caps.isEmpty
  | _ => true
def pureV : AV → Bool
  | .sc x => pureS x
  | .agg l => l.all pureS
  | .imm _ _ => false
  | .undef => false
def pureT (x : TV) : Bool := x.all pureV

/-- what is left of the heap behind a call: where the result names no block and no elder block names a new one, the new ones are gone -/
def trim (h h' : Heap) (r : TV) : Heap := if pureT r && okOld h.length h h' then h'.take h.length else h'

def envFrom : Nat → List TV → Env
  | _, [] => []
  | i, a :: r => (i, a) :: envFrom (i + 1) r

abbrev Funs := Nat → Option AFun
abbrev Orc := Nat → List TV → Option TV

def callA (F : Funs) (O : Orc) : Nat → CallA
  | 0, _, _, _ => none
  | n + 1, f, args, h => match O f args with
    | some r => some (r, h)
    | none => match F f with
      | none => none
      | some fn => match runC (callA F O n) n fn.body (envFrom 0 args) h with
        | some (.normal, e, h') => match resA e h' fn.res with | some r => some (r, trim h h' r) | none => none
        | some (.ret, e, h') => match resA e h' fn.res with | some r => some (r, trim h h' r) | none => none
        | _ => none

-- which code stands for which
def okGuard (ops : Array Oper) : Option (Nat × Bool) → Option (Nat × Bool) → Bool
  | none, none => true
  | some (j, b), some (s, b') => b == b' && ((ops[j]?).bind (·.dst)) == some s
  | _, _ => false

def entOk (P : Program) (f : Nat) : Bool := match P.funcs[f]? with | some fn => fn.body.isSome && !(fn.name == "runtime.NumGoroutine") | none => false

def okCall (a : AOp) (o : Oper) : Bool :=
  match a, o.op with
  | .call f args, .call c => (match c.callee with | .value (.func g) => f == g | _ => false) && okOs args c.args.toList
  | .callv x args, .call c => (match c.callee with | .value y => okO x y | _ => false) && okOs args c.args.toList
  | _, _ => false

def okAO (P : Program) (nt : Nat) (ops : Array Oper) (a : AOper) (o : Oper) : Bool :=
  a.dst == o.dst && (match o.dst with | some d => decide (d < nt) | none => true) && okGuard ops o.guard a.guard && (okCall a.op o || okOp P a.op o)

def okRow (P : Program) (nt : Nat) (ops : Array Oper) : List AOper → List Oper → Bool
  | [], [] => true
  | a :: l, o :: m => okAO P nt ops a o && okRow P nt ops l m
  | _, _ => false

def sees (a : AOper) : List Nat := (match a.rd with | some ks => ks | none => []) ++ (match a.guard with | some (s, _) => [s] | none => [])

def edge (o : Oper) (j : Nat) : Bool := o.after.any fun e => Region.binds .any e && e.on == j

/-- every order gives what the text's order gives -/
def okDraw (ops : List Oper) (l : List AOper) : Bool :=
  let n := l.length
  (List.range n).all fun i =>
    match l[i]?, ops[i]? with
    | some a, some o =>
      quietOp a.op && a.rd.isSome && a.dst.isSome &&
      o.after.all (fun e => !Region.binds .any e || decide (e.on < i)) &&
      (List.range n).all fun j => Nat.beq i j || match l[j]?, ops[j]? with
        | some b, some p => b.dst != a.dst && (match b.dst with | some d => !(sees a).contains d || (if j < i then edge o j else edge p i) | none => true)
        | _, _ => false
    | _, _ => false

/-- does its outcome hang on the heap? -/
def blind : AOp → Bool
  | .mov .. | .pick .. | .bin .. | .eqb .. | .eqa .. | .un .. | .conv .. | .same .. | .ixstr .. | .ixv .. | .part .. | .build .. | .bimm .. | .lens .. | .lena .. | .mx .. | .mn .. | .slstr .. | .extract .. | .mkfn .. | .carry .. => true
  | _ => false

/-- how many loud operations stand before the i-th -/
def sp : List (AOper × DM) → Nat → Nat
  | [], _ => 0
  | _ :: _, 0 => 0
  | x :: l, i + 1 => (if x.2.q then 0 else 1) + sp l i

def okDraw2 (ops : List Oper) (l : List (AOper × DM)) : Bool :=
  let n := l.length
  let pre : Nat → List Nat := fun j => match l[j]? with | some b => b.2.pre | none => []
  (List.range n).all fun i =>
    match l[i]?, ops[i]? with
    | some (a, d), some o =>
      a.rd.isSome &&
      o.after.all (fun e => !Region.binds .any e || decide (e.on < i)) &&
      d.pre.all (fun j => decide (j < i) && (edge o j || d.pre.any fun m => (pre m).contains j)) &&
      ((List.range n).all fun j => Nat.beq i j || match l[j]? with
        | some (b, d') => (a.dst.isNone || b.dst != a.dst) && (match b.dst with | some s => !(sees a).contains s || (if j < i then d.pre.contains j else d'.pre.contains i) | none => true) &&
          (d.q || d'.q || decide (i < j) || d.pre.contains j)
        | none => false) &&
      (!d.q || blind a.op || (List.range (sp l n + 1)).all fun t => Nat.beq t (sp l i) || d.ck.contains t ||
        d.pre.any (fun j => match l[j]? with | some (_, d') => !d'.q && decide (t ≤ sp l j) | none => false) ||
        (List.range n).any (fun j => match l[j]? with | some (_, d') => !d'.q && d'.pre.contains i && decide (sp l j < t) | none => false))
    | _, _ => false

def okCode (P : Program) (nt : Nat) : ACode → Code → Bool
  | .stuck, _ => true
  | .skip, .skip => true
  | .reg d l _, .region _ ops d' => d == d' && okRow P nt ops l ops.toList && (!d || okDraw ops.toList l)
  | .regd l _, .region _ ops d' => d' && okRow P nt ops (l.map (·.1)) ops.toList && okDraw2 ops.toList l
  | .seq a b, .seq a' b' => okCode P nt a a' && okCode P nt b b'
  | .cond c a b, .cond c' a' b' => okO c c' && okCode P nt a a' && okCode P nt b b'
  | .block i _ c, .block i' c' => i == i' && okCode P nt c c'
  | .loop _ c, .loop c' => okCode P nt c c'
  | .exit i, .exit i' => i == i'
  | .ret, .ret => true
  | _, _ => false

def okRes (P : Program) (nt : Nat) : List ARes → List ResultVar → Bool
  | [], [] => true
  | .tmp t :: r, .tmp t' :: r' => t == t' && okRes P nt r r'
  | .cell a ag n :: r, .cell a' t :: r' => a == a' && aggTy P t == some ag && szTy P t == some n && (ag || n == 1) && okRes P nt r r'
  | _, _ => false

def okFun (P : Program) (f : Nat) (a : AFun) : Bool :=
  match P.funcs[f]? with
  | some fn => !(fn.name == "runtime.NumGoroutine") && (match fn.body with | some c => okCode P fn.ntmps a.body c | none => false) && okRes P fn.ntmps a.res fn.results.toList && decide (fn.params.size ≤ fn.ntmps)
  | none => false
end Go.Abs
