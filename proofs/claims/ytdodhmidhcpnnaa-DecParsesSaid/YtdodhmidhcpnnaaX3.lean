/- The abstract machine, part 3: its operations, and what they compute. -/
import Derived.Test.YtdodhmidhcpnnaaX2
set_option linter.unusedVariables false
set_option linter.unusedSimpArgs false
namespace Go.Abs

inductive Opd where
  | s (n : Nat)
  | k (x : TV)
  | f (id : Nat)
  deriving Inhabited

def Opd.ev (e : Env) : Opd → TV
  | .s n => e.get n
  | .k x => x
  | .f i => [.sc (.fn i [])]

def lim : Nat := 140737488355328

/-- kinds of cells that '==' compares one by one -/
inductive FK where
  | b
  | i
  | s
  deriving Inhabited, DecidableEq

inductive AOp where
  | mov (x : Opd)
  | pick (c a b : Opd)
  | bin (op : BinOp) (x y : Opd)
  | eqb (neg : Bool) (x y : Opd)
  | eqn (slice neg : Bool) (x y : Opd)
  | eqa (ks : List FK) (neg : Bool) (x y : Opd)
  | un (op : UnOp) (x : Opd)
  | conv (k : IntKind) (x : Opd)
  | same (x : Opd)
  | b2s (x : Opd)
  | s2b (x : Opd)
  | nilck (x : Opd)
  | fld (off : Nat) (x : Opd)
  | ixa (len sz : Nat) (x i : Opd)
  | ixs (sz : Nat) (x i : Opd)
  | ixstr (x i : Opd)
  | ixv (len sz : Nat) (ag : Bool) (x i : Opd)
  | part (ag : Bool) (off sz : Nat) (x : Opd)
  | load (ag : Bool) (n : Nat) (x : Opd)
  | store (n : Nat) (x v : Opd)
  | alloc (zero : List SV)
  | box (v : Opd)
  | build (zero : List SV) (parts : List (Nat × Nat × Opd))
  | bimm (n : Nat) (sz : Nat) (zero : List SV) (parts : List (Nat × Opd))
  | brow (e sz : Nat) (n : Nat) (zero : List SV) (parts : List (Nat × Opd))
  | brov (e sz : Nat) (n : Nat) (zero : List SV) (parts : List (Nat × Opd))
  | frz (x : Opd)
  | mkrow (e sz by_ : Nat) (zero : List SV) (len : Opd)
  | app (e sz by_ : Nat) (x y : Opd)
  | len (x : Opd)
  | lens (x : Opd)
  | lena (n : Nat)
  | mx (x y : Opd)
  | mn (x y : Opd)
  | slc (sz : Nat) (x : Opd) (lo hi : Option Opd)
  | slstr (x : Opd) (lo hi : Option Opd)
  | extract (i : Nat) (x : Opd)
  | mkfn (f : Nat) (caps : List Opd)
  | carry (sub : Bool) (f : Nat) (x y c : Opd)
  | call (f : Nat) (args : List Opd)
  | callv (x : Opd) (args : List Opd)
  | stuck
  deriving Inhabited

/-- an operation: the slot that it writes, the guard (a slot's bool) -/
structure AOper where
  dst : Option Nat
  op : AOp
  guard : Option (Nat × Bool) := none
  rd : Option (List Nat) := none
  deriving Inhabited

def shAmt (k : IntKind) (b : Int) : Nat := min b.toNat k.bits
def bitop (op : BinOp) (k : IntKind) (a b : Int) : Int :=
  let x := BitVec.ofInt k.bits a
  let y := BitVec.ofInt k.bits b
  match op with
  | .and => k.wrap (x &&& y).toNat
  | .or => k.wrap (x ||| y).toNat
  | .xor => k.wrap (x ^^^ y).toNat
  | .andNot => k.wrap (x &&& ~~~y).toNat
  | _ => 0

def binInt (op : BinOp) (k : IntKind) (a b : Int) : Option SV :=
  match op with
  | .add => some (.int k (k.wrap (a + b)))
  | .sub => some (.int k (k.wrap (a - b)))
  | .mul => some (.int k (k.wrap (a * b)))
  | .quo => if b = 0 then none else some (.int k (k.wrap (a.tdiv b)))
  | .rem => if b = 0 then none else some (.int k (a.tmod b))
  | .and => some (.int k (bitop .and k a b))
  | .or => some (.int k (bitop .or k a b))
  | .xor => some (.int k (bitop .xor k a b))
  | .andNot => some (.int k (bitop .andNot k a b))
  | .eql => some (.bool (a == b))
  | .neq => some (.bool (a != b))
  | .lss => some (.bool (decide (a < b)))
  | .leq => some (.bool (decide (a ≤ b)))
  | .gtr => some (.bool (decide (a > b)))
  | .geq => some (.bool (decide (a ≥ b)))
  | _ => none

def strLess : List UInt8 → List UInt8 → Bool
  | _, [] => false
  | [], _ :: _ => true
  | a :: x, b :: y => decide (a < b) || (a == b && strLess x y)

def binStr (op : BinOp) (a b : List UInt8) : Option SV :=
  match op with
  | .add => if a.length + b.length ≤ lim then some (.str (a ++ b)) else none
  | .eql => some (.bool (a == b))
  | .neq => some (.bool (!(a == b)))
  | .lss => some (.bool (strLess a b))
  | .leq => some (.bool (strLess a b || a == b))
  | .gtr => some (.bool (!(strLess a b || a == b)))
  | .geq => some (.bool (!strLess a b))
  | _ => none

def binOpA (op : BinOp) : SV → SV → Option SV
  | .int k a, .int k' b =>
    match op with
    | .shl => if b < 0 then none else some (.int k (k.wrap (a * 2 ^ shAmt k b)))
    | .shr => if b < 0 then none else some (.int k (a.fdiv (2 ^ shAmt k b)))
    | _ => if k = k' then binInt op k a b else none
  | .str a, .str b => binStr op a b
  | _, _ => none

def unOpA (op : UnOp) : SV → Option SV
  | .int k n =>
    match op with
    | .neg => some (.int k (k.wrap (0 - n)))
    | .xor => some (.int k (bitop .xor k (if k.signed then -1 else k.max) n))
    | _ => none
  | .bool b => match op with | .not => some (.bool (!b)) | _ => none
  | _ => none

/-- is what this names still there as it was? -/
def freshB (h : Heap) (b e : Nat) : Bool := match h[b]? with | some B => Nat.beq e B.c.length | none => false

/-- nil or not -/
def isNil (h : Heap) : Bool → SV → Option Bool
  | false, .nilp => some true
  | true, .nils => some true
  | false, .ptr b _ e => if freshB h b e then some false else none
  | true, .sl b o _ c => if freshB h b (o + c) then some false else none
  | _, _ => none

def eq1 : FK → SV → SV → Option Bool
  | .i, .int k a, .int k' b => if k = k' then some (a == b) else none
  | .b, .bool a, .bool b => some (a == b)
  | .s, .str a, .str b => some (a == b)
  | _, _, _ => none

def eqK : List FK → List SV → List SV → Option Bool
  | [], [], [] => some true
  | k :: ks, a :: l, b :: m => match eq1 k a b, eqK ks l m with | some x, some y => some (x && y) | _, _ => none
  | _, _, _ => none

def setCells {α : Type} (l : List α) (o : Nat) : List α → List α
  | [] => l
  | x :: r => setCells (l.set o x) (o + 1) r

def AV.cells? : AV → Option (List SV)
  | .sc x => some [x]
  | .agg l => some l
  | .imm _ _ => none
  | .undef => none

def BK.fits (k : BK) (sz : Nat) : Bool := match k with | .row _ s => Nat.beq s sz | _ => true

def byteOf : SV → Option UInt8
  | .int .u8 n => some (UInt8.ofNat n.toNat)
  | _ => none

def bytesOf : List SV → Option (List UInt8)
  | [] => some []
  | x :: r => match byteOf x, bytesOf r with | some a, some l => some (a :: l) | _, _ => none

def bytes (l : List UInt8) : List SV := l.map fun b => .int .u8 (b.toNat : Int)

/-- the elements of what is appended: how many, and their cells -/
def srcOf (h : Heap) (sz : Nat) : AV → Option (Nat × List SV)
  | .sc .nils => some (0, [])
  | .sc (.sl b o n c) => match h[b]? with
    | some B => if o + c = B.c.length ∧ n * sz ≤ c ∧ B.k.fits sz then some (n, (B.c.drop o).take (n * sz)) else none
    | none => none
  | .imm n l => if l.length = n * sz then some (n, l) else none
  | _ => none

def appA (h : Heap) (e sz by_ : Nat) (x y : AV) : Option (TV × Heap) :=
  match srcOf h sz y with
  | none => none
  | some (m, cs) =>
    match x with
    | .sc .nils => if m = 0 then some ([.sc .nils], h) else if m * by_ ≤ lim then some ([.sc (.sl h.length 0 m (m * sz))], h ++ [⟨.row e sz, cs⟩]) else none
    | .sc (.sl b o n c) => match h[b]? with
      | some B => if o = 0 ∧ B.k = .row e sz ∧ n * sz = c ∧ c = B.c.length ∧ (n + m) * by_ ≤ lim then some ([.sc (.sl b 0 (n + m) (c + m * sz))], h.set b ⟨.row e sz, B.c ++ cs⟩) else none
      | none => none
    | .imm n l => if m ≠ 0 ∧ l.length = n * sz ∧ (n + m) * by_ ≤ lim then some ([.sc (.sl h.length 0 (n + m) ((n + m) * sz))], h ++ [⟨.row e sz, l ++ cs⟩]) else none
    | _ => none

def natOf : TV → Option Nat
  | [.sc (.int _ n)] => if 0 ≤ n then some n.toNat else none
  | _ => none

def bound (e : Env) (d : Nat) : Option Opd → Option Nat
  | none => some d
  | some x => natOf (x.ev e)

def fillA (parts : List (Nat × Nat × Opd)) (e : Env) (cs : List SV) : Option (List SV) :=
  match parts with
  | [] => some cs
  | (off, sz, x) :: r => match x.ev e with
    | [v] => match v.cells? with
      | some vs => if vs.length = sz ∧ off + sz ≤ cs.length then fillA r e (setCells cs off vs) else none
      | none => none
    | _ => none

def rep (zero : List SV) : Nat → List SV
  | 0 => []
  | n + 1 => zero ++ rep zero n

def capOf : TV → Option (Nat × Nat × Nat)
  | [.sc (.ptr b o e)] => some (b, o, e)
  | _ => none

def mapM' {α β : Type} (f : α → Option β) : List α → Option (List β)
  | [] => some []
  | x :: r => match f x, mapM' f r with | some a, some l => some (a :: l) | _, _ => none

def sc1 (x : Option SV) (h : Heap) : Option (TV × Heap) := match x with | some v => some ([.sc v], h) | none => none

def step (op : AOp) (e : Env) (h : Heap) : Option (TV × Heap) :=
  match op with
  | .mov x => some (x.ev e, h)
  | .pick c a b => match c.ev e with | [.sc (.bool t)] => some (bif t then a.ev e else b.ev e, h) | _ => none
  | .bin op x y => match x.ev e, y.ev e with | [.sc a], [.sc b] => sc1 (binOpA op a b) h | _, _ => none
  | .eqb neg x y => match x.ev e, y.ev e with | [.sc (.bool a)], [.sc (.bool b)] => some ([.sc (.bool (if neg then a != b else a == b))], h) | _, _ => none
  | .eqn sl neg x y => match x.ev e, y.ev e with
    | [.sc a], [.sc b] => match isNil h sl a, isNil h sl b with
      | some p, some q => if p || q then some ([.sc (.bool (if neg then !(p && q) else p && q))], h) else none
      | _, _ => none
    | _, _ => none
  | .eqa ks neg x y => match x.ev e, y.ev e with
    | [.agg l], [.agg m] => match eqK ks l m with | some t => some ([.sc (.bool (if neg then !t else t))], h) | none => none
    | _, _ => none
  | .un op x => match x.ev e with | [.sc a] => sc1 (unOpA op a) h | _ => none
  | .conv k x => match x.ev e with | [.sc (.int _ n)] => some ([.sc (.int k (k.wrap n))], h) | _ => none
  | .same x => match x.ev e with | [.sc (.str l)] => some ([.sc (.str l)], h) | _ => none
  | .b2s x => match x.ev e with
    | [.sc .nils] => some ([.sc (.str [])], h)
    | [y] => match srcOf h 1 y with | some (_, cs) => (match bytesOf cs with | some l => some ([.sc (.str l)], h) | none => none) | none => none
    | _ => none
  | .s2b x => match x.ev e with | [.sc (.str l)] => if l.length ≤ lim then some ([.sc (.sl h.length 0 l.length l.length)], h ++ [⟨.var, bytes l⟩]) else none | _ => none
  | .nilck x => match x.ev e with
    | [.sc (.ptr b o n)] => if freshB h b n then some ([.sc (.ptr b o n)], h) else none
    | [.sc (.fn f c)] => some ([.sc (.fn f c)], h)
    | _ => none
  | .fld off x => match x.ev e with | [.sc (.ptr b o n)] => if freshB h b n then some ([.sc (.ptr b (o + off) n)], h) else none | _ => none
  | .ixa len sz x i => match x.ev e, natOf (i.ev e) with
    | [.sc (.ptr b o n)], some j => if freshB h b n && Nat.blt j len then some ([.sc (.ptr b (o + j * sz) n)], h) else none
    | _, _ => none
  | .ixs sz x i => match x.ev e, natOf (i.ev e) with
    | [.sc (.sl b o n c)], some j => if freshB h b (o + c) && Nat.blt j n then some ([.sc (.ptr b (o + j * sz) (o + c))], h) else none
    | _, _ => none
  | .ixstr x i => match x.ev e, natOf (i.ev e) with
    | [.sc (.str l)], some j => match l[j]? with | some b => some ([.sc (.int .u8 b.toNat)], h) | none => none
    | _, _ => none
  | .ixv len sz ag x i => match x.ev e, natOf (i.ev e) with
    | [.agg l], some j => if j < len ∧ len * sz = l.length then (if ag then some ([.agg ((l.drop (j * sz)).take sz)], h) else match l[j * sz]? with | some v => some ([.sc v], h) | none => none) else none
    | _, _ => none
  | .part ag off sz x => match x.ev e with
    | [.agg l] => if off + sz ≤ l.length then (if ag then some ([.agg ((l.drop off).take sz)], h) else match l[off]? with | some v => some ([.sc v], h) | none => none) else none
    | _ => none
  | .load ag n x => match x.ev e with
    | [.sc (.ptr b o k)] => match h[b]? with
      | some B => if k = B.c.length ∧ o + n ≤ B.c.length then (if ag then some ([.agg ((B.c.drop o).take n)], h) else match B.c[o]? with | some v => some ([.sc v], h) | none => none) else none
      | none => none
    | _ => none
  | .store n x v => match x.ev e, v.ev e with
    | [.sc (.ptr b o k)], [y] => match y.cells?, h[b]? with
      | some cs, some B => if B.k ≠ .ro ∧ k = B.c.length ∧ o + n ≤ B.c.length ∧ cs.length = n then some ([], h.set b ⟨B.k, setCells B.c o cs⟩) else none
      | _, _ => none
    | _, _ => none
  | .alloc z => some ([.sc (.ptr h.length 0 z.length)], h ++ [⟨.var, z⟩])
  | .box v => match v.ev e with
    | [y] => match y.cells? with | some cs => some ([.sc (.ptr h.length 0 cs.length)], h ++ [⟨.var, cs⟩]) | none => none
    | _ => none
  | .build z parts => match fillA parts e z with | some cs => some ([.agg cs], h) | none => none
  | .bimm n sz z parts => match fillA (parts.map fun p => (p.1 * sz, sz, p.2)) e (rep z n) with | some cs => some ([.imm n cs], h) | none => none
  | .brow el sz n z parts => match fillA (parts.map fun p => (p.1 * sz, sz, p.2)) e (rep z n) with
    | some cs => some ([.sc (.sl h.length 0 n (n * sz))], h ++ [⟨.row el sz, cs⟩])
    | none => none
  | .brov el sz n z parts => match fillA (parts.map fun p => (p.1 * sz, sz, p.2)) e (rep z n) with
    | some cs => some ([.sc (.sl h.length 0 n (n * sz))], h ++ [⟨.var, cs⟩])
    | none => none
  | .frz x => match x.ev e with
    | [.sc (.sl b o n c)] => match h[b]? with
      | some B => if o = 0 ∧ c = B.c.length ∧ B.k = .var then some ([.sc (.sl b 0 n c)], h) else none
      | none => none
    | _ => none
  | .mkrow el sz by_ z x => match natOf (x.ev e) with
    | some n => if n * by_ ≤ lim ∧ n ≤ lim then some ([.sc (.sl h.length 0 n (n * sz))], h ++ [⟨.row el sz, rep z n⟩]) else none
    | none => none
  | .app el sz by_ x y => match x.ev e, y.ev e with | [a], [b] => appA h el sz by_ a b | _, _ => none
  | .len x => match x.ev e with
    | [.sc .nils] => some ([.sc (.int .i64 0)], h)
    | [.sc (.sl b o n c)] => if freshB h b (o + c) then some ([.sc (.int .i64 n)], h) else none
    | [.imm n _] => some ([.sc (.int .i64 n)], h)
    | _ => none
  | .lens x => match x.ev e with
    | [.sc (.str l)] => some ([.sc (.int .i64 l.length)], h)
    | _ => none
  | .lena n => some ([.sc (.int .i64 n)], h)
  | .mx x y => match x.ev e, y.ev e with | [.sc (.int k a)], [.sc (.int _ b)] => some ([.sc (.int k (if b > a then b else a))], h) | _, _ => none
  | .mn x y => match x.ev e, y.ev e with | [.sc (.int k a)], [.sc (.int _ b)] => some ([.sc (.int k (if b < a then b else a))], h) | _, _ => none
  | .slc sz x lo hi => match x.ev e with
    | [.sc (.sl b o n c)] => match bound e 0 lo, bound e n hi, h[b]? with
      | some l, some r, some B => if l ≤ r ∧ r ≤ n ∧ n * sz ≤ c ∧ o + c = B.c.length ∧ B.k.fits sz then some ([.sc (.sl b (o + l * sz) (r - l) (c - l * sz))], h) else none
      | _, _, _ => none
    | [.sc .nils] => match bound e 0 lo, bound e 0 hi with
      | some l, some r => if l = 0 ∧ r = 0 then some ([.sc .nils], h) else none
      | _, _ => none
    | _ => none
  | .slstr x lo hi => match x.ev e with
    | [.sc (.str s)] => match bound e 0 lo, bound e s.length hi with
      | some l, some r => if l ≤ r ∧ r ≤ s.length then some ([.sc (.str ((s.drop l).take (r - l)))], h) else none
      | _, _ => none
    | _ => none
  | .extract i x => match x.ev e with
    | a :: b :: l => match (a :: b :: l)[i]? with | some v => some ([v], h) | none => none
    | _ => none
  | .mkfn f caps => match mapM' (fun x => capOf (x.ev e)) caps with | some cs => some ([.sc (.fn f cs)], h) | none => none
  | .carry sub _ x y c => match natOf (x.ev e), natOf (y.ev e), natOf (c.ev e) with
    | some a, some b, some d => if d ≤ 1 then some (if sub
        then [.sc (.int .u64 ((a + 18446744073709551616 - b - d) % 18446744073709551616 : Nat)), .sc (.int .u64 (if a < b + d then 1 else 0 : Nat))]
        else [.sc (.int .u64 ((a + b + d) % 18446744073709551616 : Nat)), .sc (.int .u64 ((a + b + d) / 18446744073709551616 : Nat))], h) else none
    | _, _, _ => none
  | .call _ _ => none
  | .callv _ _ => none
  | .stuck => none
end Go.Abs
