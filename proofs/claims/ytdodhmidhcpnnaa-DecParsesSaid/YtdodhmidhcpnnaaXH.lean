/- The abstract machine, part 16: how a run is reckoned with letters: rows, appends, what a call may touch. -/
import Derived.Test.YtdodhmidhcpnnaaXG
set_option linter.unusedVariables false
set_option linter.unusedSimpArgs false
namespace Go.Abs

theorem wi64 {n : Int} (h1 : -9223372036854775808 ≤ n) (h2 : n < 9223372036854775808) : IntKind.i64.wrap n = n := by
  simp only [IntKind.wrap, IntKind.bits, IntKind.signed]
  simp only [Bool.true_and]
  split <;> simp_all <;> omega
theorem wu64 {n : Int} (h1 : 0 ≤ n) (h2 : n < 18446744073709551616) : IntKind.u64.wrap n = n := by
  simp only [IntKind.wrap, IntKind.bits, IntKind.signed]
  simp <;> omega
theorem wu64' (n : Int) : IntKind.u64.wrap n = n % 18446744073709551616 := by
  simp [IntKind.wrap, IntKind.bits, IntKind.signed]
theorem wu32' (n : Int) : IntKind.u32.wrap n = n % 4294967296 := by
  simp [IntKind.wrap, IntKind.bits, IntKind.signed]
theorem wu8' (n : Int) : IntKind.u8.wrap n = n % 256 := by
  simp [IntKind.wrap, IntKind.bits, IntKind.signed]

@[simp] theorem get_nil (s : Nat) : Env.get [] s = [] := rfl
@[simp] theorem get_cons' (d : Nat) (v : TV) (e : Env) (s : Nat) : Env.get ((d, v) :: e) s = if d = s then v else e.get s := get_cons d v e s

-- rows
/-- the slice value x is n elements of sz cells each, and these are its cells -/
def Row (h : Heap) (x : SV) (sz n : Nat) (cs : List SV) : Prop :=
  (x = .nils ∧ n = 0 ∧ cs = []) ∨ ∃ b o c B, x = .sl b o n c ∧ h[b]? = some B ∧ o + c = B.c.length ∧ n * sz ≤ c ∧ B.k.fits sz = true ∧ (B.c.drop o).take (n * sz) = cs

/-- a row of one's own, that may be appended to -/
def Own (h : Heap) (x : SV) (e sz n : Nat) (cs : List SV) : Prop :=
  (x = .nils ∧ n = 0 ∧ cs = []) ∨ ∃ b, x = .sl b 0 n (n * sz) ∧ h[b]? = some ⟨.row e sz, cs⟩ ∧ cs.length = n * sz

def blk : SV → Nat → Prop
  | .sl b _ _ _, j => j = b
  | _, _ => False

theorem Row.length {h : Heap} {x : SV} {sz n : Nat} {cs : List SV} (hx : Row h x sz n cs) : cs.length = n * sz := by
  rcases hx with ⟨_, rfl, rfl⟩ | ⟨b, o, c, B, _, _, h1, h2, _, rfl⟩
  · simp
  · simp; omega

theorem Own.row {h : Heap} {x : SV} {e sz n : Nat} {cs : List SV} (hx : Own h x e sz n cs) : Row h x sz n cs := by
  rcases hx with ⟨rfl, rfl, rfl⟩ | ⟨b, rfl, hB, hl⟩
  · exact .inl ⟨rfl, rfl, rfl⟩
  · exact .inr ⟨b, 0, n * sz, _, rfl, hB, by simp [hl], Nat.le_refl _, by simp [BK.fits], by simp [← hl]⟩

/-- what a call may touch: the blocks in S, and new ones -/
def Mod (S : Nat → Prop) (h h' : Heap) : Prop := h.length ≤ h'.length ∧ ∀ j, j < h.length → ¬ S j → h'[j]? = h[j]?

theorem Mod.refl (S : Nat → Prop) (h : Heap) : Mod S h h := ⟨Nat.le_refl _, fun _ _ _ => rfl⟩
theorem Mod.trans {S S' : Nat → Prop} {h h' h'' : Heap} (a : Mod S h h') (b : Mod S' h' h'') (hs : ∀ j, j < h.length → S' j → S j) : Mod S h h'' :=
  ⟨Nat.le_trans a.1 b.1, fun j hj hn => (b.2 j (Nat.lt_of_lt_of_le hj a.1) fun h' => hn (hs j hj h')).trans (a.2 j hj hn)⟩
theorem Mod.mono {S S' : Nat → Prop} {h h' : Heap} (a : Mod S h h') (hs : ∀ j, j < h.length → S j → S' j) : Mod S' h h' := ⟨a.1, fun j hj hn => a.2 j hj fun h' => hn (hs j hj h')⟩
theorem Mod.get {S : Nat → Prop} {h h' : Heap} (a : Mod S h h') {j : Nat} {B : Blk} (hB : h[j]? = some B) (hn : ¬ S j) : h'[j]? = some B := by
  rw [a.2 j (lt_of_get hB) hn]; exact hB
theorem Mod.app (S : Nat → Prop) (h t : Heap) : Mod S h (h ++ t) := ⟨by simp, fun j hj _ => List.getElem?_append_left hj⟩
theorem Mod.set {S : Nat → Prop} (h : Heap) {b : Nat} (B : Blk) (hb : S b) : Mod S h (h.set b B) := ⟨by simp, fun j hj hn => get_set_other fun e => hn (e ▸ hb)⟩

theorem Row.mod {S : Nat → Prop} {h h' : Heap} {x : SV} {sz n : Nat} {cs : List SV} (hx : Row h x sz n cs) (a : Mod S h h') (hd : ∀ j, blk x j → ¬ S j) : Row h' x sz n cs := by
  rcases hx with hx | ⟨b, o, c, B, rfl, hB, rest⟩
  · exact .inl hx
  · exact .inr ⟨b, o, c, B, rfl, a.get hB (hd b rfl), rest⟩
theorem Own.mod {S : Nat → Prop} {h h' : Heap} {x : SV} {e sz n : Nat} {cs : List SV} (hx : Own h x e sz n cs) (a : Mod S h h') (hd : ∀ j, blk x j → ¬ S j) : Own h' x e sz n cs := by
  rcases hx with hx | ⟨b, rfl, hB, rest⟩
  · exact .inl hx
  · exact .inr ⟨b, rfl, a.get hB (hd b rfl), rest⟩
theorem Row.lt {h : Heap} {x : SV} {sz n : Nat} {cs : List SV} (hx : Row h x sz n cs) : ∀ j, blk x j → j < h.length := fun j hj => by
  rcases hx with ⟨rfl, _⟩ | ⟨b, o, c, B, rfl, hB, _⟩
  · exact hj.elim
  · have : j = b := hj
    subst this; exact lt_of_get hB
theorem Own.lt {h : Heap} {x : SV} {e sz n : Nat} {cs : List SV} (hx : Own h x e sz n cs) : ∀ j, blk x j → j < h.length := hx.row.lt

-- operations as functions of values
def lenA (h : Heap) (v : TV) : Option (TV × Heap) := match v with
  | [.sc .nils] => some ([.sc (.int .i64 0)], h)
  | [.sc (.sl b o n c)] => if freshB h b (o + c) then some ([.sc (.int .i64 n)], h) else none
  | [.imm n _] => some ([.sc (.int .i64 n)], h)
  | _ => none
@[simp high] theorem step_len (x : Opd) (e : Env) (h : Heap) : step (.len x) e h = lenA h (x.ev e) := rfl

def ixsA (h : Heap) (sz : Nat) (v : TV) (j : Option Nat) : Option (TV × Heap) := match v, j with
  | [.sc (.sl b o n c)], some j => if freshB h b (o + c) && Nat.blt j n then some ([.sc (.ptr b (o + j * sz) (o + c))], h) else none
  | _, _ => none
@[simp high] theorem step_ixs (sz : Nat) (x i : Opd) (e : Env) (h : Heap) : step (.ixs sz x i) e h = ixsA h sz (x.ev e) (natOf (i.ev e)) := rfl

def loadA (h : Heap) (ag : Bool) (n : Nat) (v : TV) : Option (TV × Heap) := match v with
  | [.sc (.ptr b o k)] => match h[b]? with
    | some B => if k = B.c.length ∧ o + n ≤ B.c.length then (if ag then some ([.agg ((B.c.drop o).take n)], h) else match B.c[o]? with | some v => some ([.sc v], h) | none => none) else none
    | none => none
  | _ => none
@[simp high] theorem step_load (ag : Bool) (n : Nat) (x : Opd) (e : Env) (h : Heap) : step (.load ag n x) e h = loadA h ag n (x.ev e) := rfl

def storeA (h : Heap) (n : Nat) (x v : TV) : Option (TV × Heap) := match x, v with
  | [.sc (.ptr b o k)], [y] => match y.cells?, h[b]? with
    | some cs, some B => if B.k ≠ .ro ∧ k = B.c.length ∧ o + n ≤ B.c.length ∧ cs.length = n then some ([], h.set b ⟨B.k, setCells B.c o cs⟩) else none
    | _, _ => none
  | _, _ => none
@[simp high] theorem step_store (n : Nat) (x v : Opd) (e : Env) (h : Heap) : step (.store n x v) e h = storeA h n (x.ev e) (v.ev e) := rfl

def b2sA (h : Heap) (v : TV) : Option (TV × Heap) := match v with
  | [.sc .nils] => some ([.sc (.str [])], h)
  | [y] => match srcOf h 1 y with | some (_, cs) => (match bytesOf cs with | some l => some ([.sc (.str l)], h) | none => none) | none => none
  | _ => none
@[simp high] theorem step_b2s (x : Opd) (e : Env) (h : Heap) : step (.b2s x) e h = b2sA h (x.ev e) := rfl

def slcA (h : Heap) (sz : Nat) (v : TV) (lo hi : Nat → Option Nat) : Option (TV × Heap) := match v with
  | [.sc (.sl b o n c)] => match lo 0, hi n, h[b]? with
    | some l, some r, some B => if l ≤ r ∧ r ≤ n ∧ n * sz ≤ c ∧ o + c = B.c.length ∧ B.k.fits sz then some ([.sc (.sl b (o + l * sz) (r - l) (c - l * sz))], h) else none
    | _, _, _ => none
  | [.sc .nils] => match lo 0, hi 0 with
    | some l, some r => if l = 0 ∧ r = 0 then some ([.sc .nils], h) else none
    | _, _ => none
  | _ => none
@[simp high] theorem step_slc (sz : Nat) (x : Opd) (lo hi : Option Opd) (e : Env) (h : Heap) : step (.slc sz x lo hi) e h = slcA h sz (x.ev e) (fun d => bound e d lo) (fun d => bound e d hi) := by
  simp only [step, slcA]
  rfl

def nilckA (h : Heap) (v : TV) : Option (TV × Heap) := match v with
  | [.sc (.ptr b o n)] => if freshB h b n then some ([.sc (.ptr b o n)], h) else none
  | [.sc (.fn f c)] => some ([.sc (.fn f c)], h)
  | _ => none
@[simp high] theorem step_nilck (x : Opd) (e : Env) (h : Heap) : step (.nilck x) e h = nilckA h (x.ev e) := rfl

def fldA (h : Heap) (off : Nat) (v : TV) : Option (TV × Heap) := match v with
  | [.sc (.ptr b o n)] => if freshB h b n then some ([.sc (.ptr b (o + off) n)], h) else none
  | _ => none
@[simp high] theorem step_fld (off : Nat) (x : Opd) (e : Env) (h : Heap) : step (.fld off x) e h = fldA h off (x.ev e) := rfl

theorem int_beq (a b : Int) : (a == b) = decide (a = b) := by
  by_cases h : a = b
  · simp [h]
  · simp [h]
theorem int_bne (a b : Int) : (a != b) = !decide (a = b) := by
  by_cases h : a = b
  · simp [h]
  · simp [h]
attribute [simp] int_beq int_bne Int.natCast_inj
attribute [simp] runOps runT runDr chkOk guardOk stepC envOf put Opd.ev keep envFrom sc1 binOpA unOpA binInt natOf bound resA AV.cells? fillA rep setCells capArgs mapM' capOf quietOp binStr isNil eqK eq1

-- the other operations, one by one
@[simp] theorem stp_mov (x : Opd) (e : Env) (h : Heap) : step (.mov x) e h = (some (x.ev e, h)) := rfl
@[simp] theorem stp_pick (c : Opd) (a : Opd) (b : Opd) (e : Env) (h : Heap) : step (.pick c a b) e h = (match c.ev e with | [.sc (.bool t)] => some (bif t then a.ev e else b.ev e, h) | _ => none) := rfl
@[simp] theorem stp_bin (op : BinOp) (x : Opd) (y : Opd) (e : Env) (h : Heap) : step (.bin op x y) e h = (match x.ev e, y.ev e with | [.sc a], [.sc b] => sc1 (binOpA op a b) h | _, _ => none) := rfl
@[simp] theorem stp_eqb (neg : Bool) (x : Opd) (y : Opd) (e : Env) (h : Heap) : step (.eqb neg x y) e h = (match x.ev e, y.ev e with | [.sc (.bool a)], [.sc (.bool b)] => some ([.sc (.bool (if neg then a != b else a == b))], h) | _, _ => none) := rfl
@[simp] theorem stp_eqn (sl : Bool) (neg : Bool) (x : Opd) (y : Opd) (e : Env) (h : Heap) : step (.eqn sl neg x y) e h = (match x.ev e, y.ev e with
    | [.sc a], [.sc b] => match isNil h sl a, isNil h sl b with
      | some p, some q => if p || q then some ([.sc (.bool (if neg then !(p && q) else p && q))], h) else none
      | _, _ => none
    | _, _ => none) := rfl
@[simp] theorem stp_eqa (ks : List FK) (neg : Bool) (x : Opd) (y : Opd) (e : Env) (h : Heap) : step (.eqa ks neg x y) e h = (match x.ev e, y.ev e with
    | [.agg l], [.agg m] => match eqK ks l m with | some t => some ([.sc (.bool (if neg then !t else t))], h) | none => none
    | _, _ => none) := rfl
@[simp] theorem stp_un (op : UnOp) (x : Opd) (e : Env) (h : Heap) : step (.un op x) e h = (match x.ev e with | [.sc a] => sc1 (unOpA op a) h | _ => none) := rfl
@[simp] theorem stp_conv (k : IntKind) (x : Opd) (e : Env) (h : Heap) : step (.conv k x) e h = (match x.ev e with | [.sc (.int _ n)] => some ([.sc (.int k (k.wrap n))], h) | _ => none) := rfl
@[simp] theorem stp_same (x : Opd) (e : Env) (h : Heap) : step (.same x) e h = (match x.ev e with | [.sc (.str l)] => some ([.sc (.str l)], h) | _ => none) := rfl
@[simp] theorem stp_s2b (x : Opd) (e : Env) (h : Heap) : step (.s2b x) e h = (match x.ev e with | [.sc (.str l)] => if l.length ≤ lim then some ([.sc (.sl h.length 0 l.length l.length)], h ++ [⟨.var, bytes l⟩]) else none | _ => none) := rfl
@[simp] theorem stp_ixa (len : Nat) (sz : Nat) (x : Opd) (i : Opd) (e : Env) (h : Heap) : step (.ixa len sz x i) e h = (match x.ev e, natOf (i.ev e) with
    | [.sc (.ptr b o n)], some j => if freshB h b n && Nat.blt j len then some ([.sc (.ptr b (o + j * sz) n)], h) else none
    | _, _ => none) := rfl
@[simp] theorem stp_ixstr (x : Opd) (i : Opd) (e : Env) (h : Heap) : step (.ixstr x i) e h = (match x.ev e, natOf (i.ev e) with
    | [.sc (.str l)], some j => match l[j]? with | some b => some ([.sc (.int .u8 b.toNat)], h) | none => none
    | _, _ => none) := rfl
@[simp] theorem stp_ixv (len : Nat) (sz : Nat) (ag : Bool) (x : Opd) (i : Opd) (e : Env) (h : Heap) : step (.ixv len sz ag x i) e h = (match x.ev e, natOf (i.ev e) with
    | [.agg l], some j => if j < len ∧ len * sz = l.length then (if ag then some ([.agg ((l.drop (j * sz)).take sz)], h) else match l[j * sz]? with | some v => some ([.sc v], h) | none => none) else none
    | _, _ => none) := rfl
@[simp] theorem stp_part (ag : Bool) (off : Nat) (sz : Nat) (x : Opd) (e : Env) (h : Heap) : step (.part ag off sz x) e h = (match x.ev e with
    | [.agg l] => if off + sz ≤ l.length then (if ag then some ([.agg ((l.drop off).take sz)], h) else match l[off]? with | some v => some ([.sc v], h) | none => none) else none
    | _ => none) := rfl
@[simp] theorem stp_alloc (z : List SV) (e : Env) (h : Heap) : step (.alloc z) e h = (some ([.sc (.ptr h.length 0 z.length)], h ++ [⟨.var, z⟩])) := rfl
@[simp] theorem stp_box (v : Opd) (e : Env) (h : Heap) : step (.box v) e h = (match v.ev e with
    | [y] => match y.cells? with | some cs => some ([.sc (.ptr h.length 0 cs.length)], h ++ [⟨.var, cs⟩]) | none => none
    | _ => none) := rfl
@[simp] theorem stp_build (z : List SV) (parts : List (Nat × Nat × Opd)) (e : Env) (h : Heap) : step (.build z parts) e h = (match fillA parts e z with | some cs => some ([.agg cs], h) | none => none) := rfl
@[simp] theorem stp_bimm (n : Nat) (sz : Nat) (z : List SV) (parts : List (Nat × Opd)) (e : Env) (h : Heap) : step (.bimm n sz z parts) e h = (match fillA (parts.map fun p => (p.1 * sz, sz, p.2)) e (rep z n) with | some cs => some ([.imm n cs], h) | none => none) := rfl
@[simp] theorem stp_brow (el : Nat) (sz : Nat) (n : Nat) (z : List SV) (parts : List (Nat × Opd)) (e : Env) (h : Heap) : step (.brow el sz n z parts) e h = (match fillA (parts.map fun p => (p.1 * sz, sz, p.2)) e (rep z n) with
    | some cs => some ([.sc (.sl h.length 0 n (n * sz))], h ++ [⟨.row el sz, cs⟩])
    | none => none) := rfl
@[simp] theorem stp_brov (el : Nat) (sz : Nat) (n : Nat) (z : List SV) (parts : List (Nat × Opd)) (e : Env) (h : Heap) : step (.brov el sz n z parts) e h = (match fillA (parts.map fun p => (p.1 * sz, sz, p.2)) e (rep z n) with
    | some cs => some ([.sc (.sl h.length 0 n (n * sz))], h ++ [⟨.var, cs⟩])
    | none => none) := rfl
@[simp] theorem stp_frz (x : Opd) (e : Env) (h : Heap) : step (.frz x) e h = (match x.ev e with
    | [.sc (.sl b o n c)] => match h[b]? with
      | some B => if o = 0 ∧ c = B.c.length ∧ B.k = .var then some ([.sc (.sl b 0 n c)], h) else none
      | none => none
    | _ => none) := rfl
@[simp] theorem stp_mkrow (el : Nat) (sz : Nat) (by_ : Nat) (z : List SV) (x : Opd) (e : Env) (h : Heap) : step (.mkrow el sz by_ z x) e h = (match natOf (x.ev e) with
    | some n => if n * by_ ≤ lim ∧ n ≤ lim then some ([.sc (.sl h.length 0 n (n * sz))], h ++ [⟨.row el sz, rep z n⟩]) else none
    | none => none) := rfl
@[simp] theorem stp_app (el : Nat) (sz : Nat) (by_ : Nat) (x : Opd) (y : Opd) (e : Env) (h : Heap) : step (.app el sz by_ x y) e h = (match x.ev e, y.ev e with | [a], [b] => appA h el sz by_ a b | _, _ => none) := rfl
@[simp] theorem stp_lens (x : Opd) (e : Env) (h : Heap) : step (.lens x) e h = (match x.ev e with
    | [.sc (.str l)] => some ([.sc (.int .i64 l.length)], h)
    | _ => none) := rfl
@[simp] theorem stp_lena (n : Nat) (e : Env) (h : Heap) : step (.lena n) e h = (some ([.sc (.int .i64 n)], h)) := rfl
@[simp] theorem stp_mx (x : Opd) (y : Opd) (e : Env) (h : Heap) : step (.mx x y) e h = (match x.ev e, y.ev e with | [.sc (.int k a)], [.sc (.int _ b)] => some ([.sc (.int k (if b > a then b else a))], h) | _, _ => none) := rfl
@[simp] theorem stp_mn (x : Opd) (y : Opd) (e : Env) (h : Heap) : step (.mn x y) e h = (match x.ev e, y.ev e with | [.sc (.int k a)], [.sc (.int _ b)] => some ([.sc (.int k (if b < a then b else a))], h) | _, _ => none) := rfl
@[simp] theorem stp_slstr (x : Opd) (lo : Option Opd) (hi : Option Opd) (e : Env) (h : Heap) : step (.slstr x lo hi) e h = (match x.ev e with
    | [.sc (.str s)] => match bound e 0 lo, bound e s.length hi with
      | some l, some r => if l ≤ r ∧ r ≤ s.length then some ([.sc (.str ((s.drop l).take (r - l)))], h) else none
      | _, _ => none
    | _ => none) := rfl
@[simp] theorem stp_extract (i : Nat) (x : Opd) (e : Env) (h : Heap) : step (.extract i x) e h = (match x.ev e with
    | a :: b :: l => match (a :: b :: l)[i]? with | some v => some ([v], h) | none => none
    | _ => none) := rfl
@[simp] theorem stp_mkfn (f : Nat) (caps : List Opd) (e : Env) (h : Heap) : step (.mkfn f caps) e h = (match mapM' (fun x => capOf (x.ev e)) caps with | some cs => some ([.sc (.fn f cs)], h) | none => none) := rfl
/-- Add64 and Sub64: what stays, what is carried -/
def cLo (sub : Bool) (a b d : Nat) : Nat := if sub then (a + 18446744073709551616 - b - d) % 18446744073709551616 else (a + b + d) % 18446744073709551616
def cHi (sub : Bool) (a b d : Nat) : Nat := if sub then (if a < b + d then 1 else 0) else (a + b + d) / 18446744073709551616
theorem cLo_add (a b d : Nat) : cLo false a b d = (a + b + d) % 18446744073709551616 := by unfold cLo; rw [if_neg (by decide)]
theorem cHi_add (a b d : Nat) : cHi false a b d = (a + b + d) / 18446744073709551616 := by unfold cHi; rw [if_neg (by decide)]
theorem cLo_sub (a b d : Nat) : cLo true a b d = (a + 18446744073709551616 - b - d) % 18446744073709551616 := by unfold cLo; rw [if_pos (by decide)]
theorem cHi_sub (a b d : Nat) : cHi true a b d = if a < b + d then 1 else 0 := by unfold cHi; rw [if_pos (by decide)]
theorem cLo_addI (a b d : Nat) : ((cLo false a b d : Nat) : Int) = ((a : Int) + b + d) % 18446744073709551616 := by rw [cLo_add]; omega
theorem cHi_addI (a b d : Nat) : ((cHi false a b d : Nat) : Int) = ((a : Int) + b + d) / 18446744073709551616 := by rw [cHi_add]; omega
theorem cLo_subI {a b d : Nat} (hb : b < 18446744073709551616) (hd : d ≤ 1) : ((cLo true a b d : Nat) : Int) = ((a : Int) - b - d) % 18446744073709551616 := by rw [cLo_sub]; omega
theorem cHi_subI (a b d : Nat) : ((cHi true a b d : Nat) : Int) = 1 ∧ (a : Int) < b + d ∨ ((cHi true a b d : Nat) : Int) = 0 ∧ (b : Int) + d ≤ a := by rw [cHi_sub]; split <;> omega
theorem stp_carry0 (sub : Bool) (u1 : Nat) (x : Opd) (y : Opd) (c : Opd) (e : Env) (h : Heap) : step (.carry sub u1 x y c) e h = (match natOf (x.ev e), natOf (y.ev e), natOf (c.ev e) with
    | some a, some b, some d => if d ≤ 1 then some (if sub
        then [.sc (.int .u64 ((a + 18446744073709551616 - b - d) % 18446744073709551616 : Nat)), .sc (.int .u64 (if a < b + d then 1 else 0 : Nat))]
        else [.sc (.int .u64 ((a + b + d) % 18446744073709551616 : Nat)), .sc (.int .u64 ((a + b + d) / 18446744073709551616 : Nat))], h) else none
    | _, _, _ => none) := rfl
@[simp] theorem stp_carry (sub : Bool) (u1 : Nat) (x : Opd) (y : Opd) (c : Opd) (e : Env) (h : Heap) : step (.carry sub u1 x y c) e h = (match natOf (x.ev e), natOf (y.ev e), natOf (c.ev e) with
    | some a, some b, some d => if d ≤ 1 then some ([.sc (.int .u64 ((cLo sub a b d : Nat) : Int)), .sc (.int .u64 ((cHi sub a b d : Nat) : Int))], h) else none
    | _, _, _ => none) := by
  rw [stp_carry0]
  cases sub <;> simp only [cLo, cHi, Bool.false_eq_true, if_false, if_true]

section
variable {call : CallA} {loopK : LoopK} {e : Env} {h : Heap}
@[simp] theorem rl_skip : runL call loopK .skip e h = some (.normal, e, h) := rfl
@[simp] theorem rl_exit (i : Nat) : runL call loopK (.exit i) e h = some (.exit i, e, h) := rfl
@[simp] theorem rl_ret : runL call loopK .ret e h = some (.ret, e, h) := rfl
@[simp] theorem rl_reg (d : Bool) (l : List AOper) (ks : List Nat) : runL call loopK (.reg d l ks) e h = match runOps call l e h with | some (e', h') => some (.normal, keep ks e', h') | none => none := rfl
@[simp] theorem rl_regd (l : List (AOper × DM)) (ks : List Nat) : runL call loopK (.regd l ks) e h = match runDr call l e h with | some (e', h') => some (.normal, keep ks e', h') | none => none := rfl
@[simp] theorem rl_seq (a b : ACode) : runL call loopK (.seq a b) e h = match runL call loopK a e h with
    | some (.normal, e', h') => runL call loopK b e' h'
    | some (.exit i, e', h') => some (.exit i, e', h')
    | some (.ret, e', h') => some (.ret, e', h')
    | none => none := rfl
@[simp] theorem rl_cond (c : Opd) (a b : ACode) : runL call loopK (.cond c a b) e h = match c.ev e with
    | [.sc (.bool t)] => if t then runL call loopK a e h else runL call loopK b e h
    | _ => none := rfl
@[simp] theorem rl_block (id : Nat) (ks : List Nat) (c : ACode) : runL call loopK (.block id ks c) e h = match runL call loopK c e h with
    | some (.normal, e', h') => some (.normal, keep ks e', h')
    | some (.exit i, e', h') => if i = id then some (.normal, keep ks e', h') else some (.exit i, e', h')
    | some (.ret, e', h') => some (.ret, e', h')
    | none => none := rfl
end

/-- the machine, with its runs hidden behind letters (so that no check unfolds them): how they go on -/
abbrev MachEqs (F : Funs) (O : Orc) (R : ACode → Env → Heap → Option (AEx × Env × Heap)) (RO : List AOper → Env → Heap → Option (Env × Heap)) (RD : List (AOper × DM) → Env → Heap → Option (Env × Heap)) (RT : List (AOper × DM) → Env → Heap → Option (Env × Heap × List Heap × List Chk)) : Prop :=
  (∀ e h, R .skip e h = some (.normal, e, h)) ∧ (∀ i e h, R (.exit i) e h = some (.exit i, e, h)) ∧ (∀ e h, R .ret e h = some (.ret, e, h)) ∧
  (∀ d l ks e h, R (.reg d l ks) e h = match RO l e h with | some (e', h') => some (.normal, keep ks e', h') | none => none) ∧
  (∀ l ks e h, R (.regd l ks) e h = match RD l e h with | some (e', h') => some (.normal, keep ks e', h') | none => none) ∧
  (∀ a b e h, R (.seq a b) e h = match R a e h with
    | some (.normal, e', h') => R b e' h'
    | some (.exit i, e', h') => some (.exit i, e', h')
    | some (.ret, e', h') => some (.ret, e', h')
    | none => none) ∧
  (∀ c a b e h, R (.cond c a b) e h = match c.ev e with
    | [.sc (.bool t)] => if t then R a e h else R b e h
    | _ => none) ∧
  (∀ id ks c e h, R (.block id ks c) e h = match R c e h with
    | some (.normal, e', h') => some (.normal, keep ks e', h')
    | some (.exit i, e', h') => if i = id then some (.normal, keep ks e', h') else some (.exit i, e', h')
    | some (.ret, e', h') => some (.ret, e', h')
    | none => none) ∧
  (∀ e h, RO [] e h = some (e, h)) ∧
  (∀ o r e h, RO (o :: r) e h = match guardOk o.guard e with
    | some true => match stepC (callE F O) o.op (envOf o e) h with
      | some (tv, h') => RO r (put e o.dst tv) h'
      | none => none
    | some false => RO r (put e o.dst [.undef]) h
    | none => none) ∧
  (∀ l e h, RD l e h = match RT l e h with
    | some (e', h', hs, cs) => if cs.all (chkOk (callE F O) hs) then some (e', h') else none
    | none => none) ∧
  (∀ e h, RT [] e h = some (e, h, [h], [])) ∧
  (∀ o d r e h, RT ((o, d) :: r) e h = match guardOk o.guard e with
    | some true => match stepC (callE F O) o.op (envOf o e) h with
      | some (tv, h') => match RT r (put e o.dst tv) h' with
        | some (e2, h2, hs, cs) => if d.q then (if quietOp o.op || hpSame h' h then some (e2, h2, hs, if d.ck.isEmpty then cs else ⟨d.ck, o.op, envOf o e, tv⟩ :: cs) else none) else some (e2, h2, h :: hs, cs)
        | none => none
      | none => none
    | some false => match RT r (put e o.dst [.undef]) h with
      | some (e2, h2, hs, cs) => if d.q then some (e2, h2, hs, cs) else some (e2, h2, h :: hs, cs)
      | none => none
    | none => none)

structure Mach (F : Funs) (O : Orc) (R : ACode → Env → Heap → Option (AEx × Env × Heap)) (RO : List AOper → Env → Heap → Option (Env × Heap)) (RD : List (AOper × DM) → Env → Heap → Option (Env × Heap)) (RT : List (AOper × DM) → Env → Heap → Option (Env × Heap × List Heap × List Chk)) : Prop where
  eqs : MachEqs F O R RO RD RT
  run : ∀ {c e h x}, runE F O c e h = some x → R c e h = some x

theorem mach (F : Funs) (O : Orc) : Mach F O (runE F O) (runOps (callE F O)) (runDr (callE F O)) (runT (callE F O)) :=
  ⟨⟨fun _ _ => rfl, fun _ _ _ => rfl, fun _ _ => rfl, fun _ _ _ _ _ => rfl, fun _ _ _ _ => rfl, fun _ _ _ _ => rfl, fun _ _ _ _ _ => rfl, fun _ _ _ _ _ => rfl, fun _ _ => rfl, fun _ _ _ _ => rfl, fun _ _ _ => rfl, fun _ _ => rfl, fun _ _ _ _ _ => rfl⟩, fun h => h⟩

theorem callM {F : Funs} {O : Orc} {f args h fn x e h' r} (ho : O f args = none) (hf : F f = some fn) (hr : ∀ R RO RD RT, Mach F O R RO RD RT → R fn.body (envFrom 0 args) h = some (x, e, h')) (hx : x = .normal ∨ x = .ret) (hres : resA e h' fn.res = some r) :
    callE F O f args h = some (r, trim h h' r) := callE_of ho hf (hr _ _ _ _ (mach F O)) hx hres

@[simp] theorem tvSame_self (x : TV) : tvSame x x = true := tvSame_refl x
@[simp] theorem hpSame_self (x : Heap) : hpSame x x = true := hpSame_refl x

/-- the pointer to the j-th element -/
def elemP (x : SV) (sz j : Nat) : SV := match x with
  | .sl b o _ c => .ptr b (o + j * sz) (o + c)
  | _ => .nilp

theorem freshB_of {h : Heap} {b e : Nat} {B : Blk} (hB : h[b]? = some B) (he : e = B.c.length) : freshB h b e = true := by
  unfold freshB; rw [hB, he]; simp

section
variable {h : Heap} {x : SV} {sz n : Nat} {cs : List SV}
theorem lenA_row (hx : Row h x sz n cs) : lenA h [.sc x] = some ([.sc (.int .i64 n)], h) := by
  rcases hx with ⟨rfl, rfl, _⟩ | ⟨b, o, c, B, rfl, hB, h1, _⟩
  · rfl
  · simp only [lenA, freshB_of hB h1, if_true]

theorem ixsA_row (hx : Row h x sz n cs) {j : Nat} (hj : j < n) : ixsA h sz [.sc x] (some j) = some ([.sc (elemP x sz j)], h) := by
  rcases hx with ⟨rfl, rfl, _⟩ | ⟨b, o, c, B, rfl, hB, h1, _⟩
  · omega
  · have : Nat.blt j n = true := by simp [Nat.blt]; omega
    simp only [ixsA, freshB_of hB h1, this, Bool.and_self, if_true, elemP]

theorem loadA_row (hx : Row h x sz n cs) {j : Nat} (hj : j < n) {ag : Bool} {k : Nat} (hk : k ≤ sz) {v : SV} (hv : cs[j * sz]? = some v) (hk0 : 0 < k) : loadA h false k [.sc (elemP x sz j)] = some ([.sc v], h) := by
  rcases hx with ⟨rfl, rfl, _⟩ | ⟨b, o, c, B, rfl, hB, h1, h2, _, rfl⟩
  · omega
  · have hm : (j + 1) * sz ≤ n * sz := Nat.mul_le_mul_right _ hj
    have e2 : (j + 1) * sz = j * sz + sz := by rw [Nat.add_mul, Nat.one_mul]
    have hlt : j * sz < n * sz := by omega
    rw [List.getElem?_take, if_pos hlt, List.getElem?_drop] at hv
    simp only [loadA, elemP, hB]
    rw [if_pos ⟨h1, by omega⟩]
    simp only [Bool.false_eq_true, if_false, hv]

/-- a field's address behind an element's -/
def fldP (p : SV) (off : Nat) : SV := match p with
  | .ptr b o n => .ptr b (o + off) n
  | y => y

theorem fldA_row (hx : Row h x sz n cs) {j : Nat} (hj : j < n) (off : Nat) : fldA h off [.sc (elemP x sz j)] = some ([.sc (fldP (elemP x sz j) off)], h) := by
  rcases hx with ⟨rfl, rfl, _⟩ | ⟨b, o, c, B, rfl, hB, h1, _⟩
  · omega
  · simp only [fldA, elemP, freshB_of hB h1, if_true, fldP]

theorem loadA_fld (hx : Row h x sz n cs) {j : Nat} (hj : j < n) {off : Nat} (ho : off < sz) {v : SV} (hv : cs[j * sz + off]? = some v) : loadA h false 1 [.sc (fldP (elemP x sz j) off)] = some ([.sc v], h) := by
  rcases hx with ⟨rfl, rfl, _⟩ | ⟨b, o, c, B, rfl, hB, h1, h2, _, rfl⟩
  · omega
  · have hm : (j + 1) * sz ≤ n * sz := Nat.mul_le_mul_right _ hj
    have e2 : (j + 1) * sz = j * sz + sz := by rw [Nat.add_mul, Nat.one_mul]
    rw [List.getElem?_take, if_pos (by omega), List.getElem?_drop] at hv
    simp only [loadA, elemP, fldP, hB]
    rw [if_pos ⟨h1, by omega⟩]
    have : o + j * sz + off = o + (j * sz + off) := by omega
    simp only [Bool.false_eq_true, if_false, this, hv]

theorem srcOf_row (hx : Row h x sz n cs) : srcOf h sz (.sc x) = some (n, cs) := by
  rcases hx with ⟨rfl, rfl, rfl⟩ | ⟨b, o, c, B, rfl, hB, h1, h2, h3, rfl⟩
  · rfl
  · simp only [srcOf, hB]
    rw [if_pos ⟨h1, h2, h3⟩]

theorem byteOf_int (b : UInt8) : byteOf (.int .u8 (b.toNat : Int)) = some b := by simp [byteOf]
theorem bytesOf_bytes : ∀ l : List UInt8, bytesOf (bytes l) = some l
  | [] => rfl
  | b :: l => by
    have := bytesOf_bytes l
    simp only [bytes] at this
    simp only [bytes, List.map_cons, bytesOf, byteOf_int, this]

theorem b2sA_row {l : List UInt8} (hx : Row h x 1 n (bytes l)) : b2sA h [.sc x] = some ([.sc (.str l)], h) := by
  have h1 := srcOf_row hx
  rcases hx with ⟨rfl, rfl, hb⟩ | ⟨b, o, c, B, rfl, hB, _⟩
  · have : l = [] := by simpa [bytes] using hb
    subst this
    rfl
  · simp only [b2sA, h1, bytesOf_bytes]

/-- a part of a slice -/
def cutS (x : SV) (sz l r : Nat) : SV := match x with
  | .sl b o _ c => .sl b (o + l * sz) (r - l) (c - l * sz)
  | y => y

theorem slcA_row (hx : Row h x sz n cs) {lo hi : Nat → Option Nat} {l r : Nat} (hl : lo 0 = some l) (hr : hi n = some r) (h1 : l ≤ r) (h2 : r ≤ n) : slcA h sz [.sc x] lo hi = some ([.sc (cutS x sz l r)], h) := by
  rcases hx with ⟨rfl, rfl, _⟩ | ⟨b, o, c, B, rfl, hB, g1, g2, g3, _⟩
  · simp only [slcA, hl, hr, cutS]
    rw [if_pos ⟨by omega, by omega⟩]
  · simp only [slcA, hl, hr, hB, cutS]
    rw [if_pos ⟨h1, h2, g2, g1, g3⟩]

theorem cut_row (hx : Row h x sz n cs) {l r : Nat} (h1 : l ≤ r) (h2 : r ≤ n) : Row h (cutS x sz l r) sz (r - l) ((cs.drop (l * sz)).take ((r - l) * sz)) := by
  rcases hx with ⟨rfl, rfl, rfl⟩ | ⟨b, o, c, B, rfl, hB, g1, g2, g3, rfl⟩
  · exact .inl ⟨rfl, by omega, by simp⟩
  · have hm : r * sz ≤ n * sz := Nat.mul_le_mul_right _ h2
    have hm2 : (r - l) * sz = r * sz - l * sz := Nat.sub_mul _ _ _
    have hm3 : l * sz ≤ r * sz := Nat.mul_le_mul_right _ h1
    refine .inr ⟨b, o + l * sz, c - l * sz, B, rfl, hB, by omega, by omega, g3, ?_⟩
    rw [hm2]
    apply List.ext_getElem?
    intro i
    simp only [List.getElem?_take, List.getElem?_drop]
    by_cases hi : i < r * sz - l * sz
    · rw [if_pos hi, if_pos hi, if_pos (by omega)]
      congr 1
      omega
    · rw [if_neg hi, if_neg hi]

theorem blk_cut {l r : Nat} : ∀ j, blk (cutS x sz l r) j → blk x j := fun j hj => by cases x <;> simp_all [cutS, blk]

/-- behind an append: the value, the heap -/
def appV (h : Heap) (x : SV) (sz m : Nat) : SV := match x with
  | .sl b _ n c => .sl b 0 (n + m) (c + m * sz)
  | _ => if m = 0 then .nils else .sl h.length 0 m (m * sz)
def appH (h : Heap) (x : SV) (e sz m : Nat) (cs : List SV) : Heap := match x with
  | .sl b _ _ _ => match h[b]? with | some B => h.set b ⟨.row e sz, B.c ++ cs⟩ | none => h
  | _ => if m = 0 then h else h ++ [⟨.row e sz, cs⟩]

theorem appA_own {e by_ m : Nat} {y : AV} {ys : List SV} (hx : Own h x e sz n cs) (hy : srcOf h sz y = some (m, ys)) (hl : (n + m) * by_ ≤ lim) : appA h e sz by_ (.sc x) y = some ([.sc (appV h x sz m)], appH h x e sz m ys) := by
  rcases hx with ⟨rfl, rfl, rfl⟩ | ⟨b, rfl, hB, hc⟩
  · simp only [appA, hy, appV, appH]
    by_cases hm : m = 0
    · simp only [hm, if_true]
    · rw [if_neg hm, if_pos (by simpa using hl), if_neg hm, if_neg hm]
  · simp only [appA, hy, hB, appV, appH]
    rw [if_pos ⟨trivial, trivial, trivial, hc.symm, hl⟩]

theorem app_own {e m : Nat} {ys : List SV} (hx : Own h x e sz n cs) (hys : ys.length = m * sz) : Own (appH h x e sz m ys) (appV h x sz m) e sz (n + m) (cs ++ ys) := by
  rcases hx with ⟨rfl, rfl, rfl⟩ | ⟨b, rfl, hB, hc⟩
  · simp only [appV, appH]
    by_cases hm : m = 0
    · subst hm
      simp only [if_true]
      exact .inl ⟨rfl, rfl, by simpa using hys⟩
    · rw [if_neg hm, if_neg hm]
      exact .inr ⟨h.length, by simp, by simp, by simp [hys]⟩
  · simp only [appV, appH, hB]
    exact .inr ⟨b, by rw [Nat.add_mul], get_set_same hB, by rw [List.length_append, hc, hys, Nat.add_mul]⟩

theorem app_mod {e m : Nat} {ys : List SV} : Mod (blk x) h (appH h x e sz m ys) := by
  cases x <;> simp only [appH]
  case sl b o k c =>
    split
    · exact Mod.set h _ rfl
    · exact Mod.refl _ _
  all_goals
    split
    · exact Mod.refl _ _
    · exact Mod.app _ _ _

theorem blk_app {m : Nat} : ∀ j, blk (appV h x sz m) j → blk x j ∨ j = h.length := fun j hj => by
  cases x <;> simp only [appV] at hj
  case sl b o k c => exact .inl hj
  all_goals
    split at hj
    · exact hj.elim
    · exact .inr hj

theorem new_own (e : Nat) (h0 : cs.length = n * sz) : Own (h ++ [⟨.row e sz, cs⟩]) (.sl h.length 0 n (n * sz)) e sz n cs := .inr ⟨h.length, rfl, by simp, h0⟩
end

theorem bytes_length (l : List UInt8) : (bytes l).length = l.length := by simp [bytes]
theorem bytes_append (l m : List UInt8) : bytes (l ++ m) = bytes l ++ bytes m := by simp [bytes]
theorem bytes_get (l : List UInt8) (i : Nat) : (bytes l)[i]? = (l[i]?).map fun b => .int .u8 (b.toNat : Int) := by simp [bytes]
theorem bytes_take (l : List UInt8) (i : Nat) : bytes (l.take i) = (bytes l).take i := by simp [bytes]
theorem bytes_drop (l : List UInt8) (i : Nat) : bytes (l.drop i) = (bytes l).drop i := by simp [bytes]

-- what is left behind a call
@[simp] theorem trim_self (h : Heap) (r : TV) : trim h h r = h := by
  unfold trim
  split
  · simp
  · rfl
theorem okOld_app (n : Nat) : ∀ (h t : Heap), okOld n h (h ++ t) = true
  | [], _ => rfl
  | B :: h, t => by
    show ((B.c.all (belowS n) || sames B.c B.c) && okOld n h (h ++ t)) = true
    rw [okOld_app n h t, sames_refl]
    simp
theorem trim_app (h t : Heap) {r : TV} (hr : pureT r = true) : trim h (h ++ t) r = h := by
  unfold trim
  rw [okOld_app, hr]
  simp
theorem okOld_of {n : Nat} : ∀ {h h' : Heap}, h.length ≤ h'.length → (∀ (j : Nat) (B C : Blk), h[j]? = some B → h'[j]? = some C → B.c = C.c ∨ ∀ x ∈ C.c, belowS n x = true) → okOld n h h' = true
  | [], h', _, _ => rfl
  | B :: h, C :: h', hl, ho => by
    have h0 := ho 0 B C rfl rfl
    have h1 := okOld_of (n := n) (h := h) (h' := h') (by simpa using hl) fun j X Y hX hY => ho (j + 1) X Y (by simpa using hX) (by simpa using hY)
    simp only [okOld, h1, Bool.and_true, Bool.or_eq_true, List.all_eq_true]
    rcases h0 with h0 | h0
    · exact .inr (by rw [h0]; exact sames_refl _)
    · exact .inl h0
  | _ :: _, [], hl, _ => by simp at hl
/-- the result is pure and the elder blocks stay as they were: nothing is left -/
theorem trim_mod {S : Nat → Prop} {h h' : Heap} {r : TV} (hr : pureT r = true) (a : Mod S h h') (hs : ∀ j, j < h.length → ¬ S j) : trim h h' r = h := by
  unfold trim
  rw [okOld_of a.1 fun j B C hB hC => .inl (by rw [a.2 j (lt_of_get hB) (hs j (lt_of_get hB)), hB] at hC; injection hC with hC; rw [hC]), hr]
  simp only [Bool.and_self, if_true]
  apply List.ext_getElem?
  intro i
  by_cases hi : i < h.length
  · rw [take_get hi]; exact a.2 i hi (hs i hi)
  · rw [List.getElem?_eq_none (by simp; omega), List.getElem?_eq_none (by omega)]
theorem trim_mod' {S : Nat → Prop} {h h' : Heap} {r : TV} (a : Mod S h h') : Mod S h (trim h h' r) := by
  unfold trim
  split
  · exact ⟨by rw [List.length_take]; have := a.1; omega, fun j hj hn => by rw [take_get hj]; exact a.2 j hj hn⟩
  · exact a

section
variable {F : Funs} {O : Orc} {ks : List Nat} {c : ACode} {e e1 : Env} {h h1 : Heap} {r : AEx × Env × Heap}
/-- a round, and the rest -/
theorem loop_step (hb : runE F O c (keep ks e) h = some (.normal, e1, h1)) (hk : loopE F O (.loop ks c) e1 h1 = some r) : loopE F O (.loop ks c) e h = some r := by
  refine loopE_round ?_
  show (match runE F O c (keep ks e) h with
    | some (.normal, e', h') => loopE F O (.loop ks c) e' h'
    | some (.exit i, e', h') => some (.exit i, e', h')
    | some (.ret, e', h') => some (.ret, e', h')
    | none => none) = some r
  rw [hb]
  exact hk
theorem loop_exit {i : Nat} (hb : runE F O c (keep ks e) h = some (.exit i, e1, h1)) : loopE F O (.loop ks c) e h = some (.exit i, e1, h1) := by
  refine loopE_round ?_
  show (match runE F O c (keep ks e) h with
    | some (.normal, e', h') => loopE F O (.loop ks c) e' h'
    | some (.exit i, e', h') => some (.exit i, e', h')
    | some (.ret, e', h') => some (.ret, e', h')
    | none => none) = _
  rw [hb]
theorem loop_ret (hb : runE F O c (keep ks e) h = some (.ret, e1, h1)) : loopE F O (.loop ks c) e h = some (.ret, e1, h1) := by
  refine loopE_round ?_
  show (match runE F O c (keep ks e) h with
    | some (.normal, e', h') => loopE F O (.loop ks c) e' h'
    | some (.exit i, e', h') => some (.exit i, e', h')
    | some (.ret, e', h') => some (.ret, e', h')
    | none => none) = _
  rw [hb]
/-- a loop entered: what the limit says of it is what its run says -/
theorem loop_run (hk : loopE F O (.loop ks c) e h = some r) : runE F O (.loop ks c) e h = some r := by
  obtain ⟨n, hn⟩ := loopE_C hk
  have h1 := runC_mono (callA_succ n) n (n + 1) (by omega) _ _ _ _ hn
  have h2 : runL (callA F O (n + 1)) (runC (callA F O (n + 1)) n) (.loop ks c) e h = some r := h1
  exact runL_lift (Φ := filt1) (c' := fun _ => callE F O) (k' := fun _ => loopE F O) (fun f a h x hx => callE_of_A hx) (fun c e h x hx => loopE_of_C (n := n + 1) (runC_mono (fun _ _ _ _ h => h) n (n + 1) (by omega) _ _ _ _ hx)) _ _ _ _ h2
theorem stepM (hb : ∀ R RO RD RT, Mach F O R RO RD RT → R c (keep ks e) h = some (.normal, e1, h1)) (hk : loopE F O (.loop ks c) e1 h1 = some r) : loopE F O (.loop ks c) e h = some r := loop_step (hb _ _ _ _ (mach F O)) hk
theorem exitM {i : Nat} (hb : ∀ R RO RD RT, Mach F O R RO RD RT → R c (keep ks e) h = some (.exit i, e1, h1)) : loopE F O (.loop ks c) e h = some (.exit i, e1, h1) := loop_exit (hb _ _ _ _ (mach F O))
theorem retM (hb : ∀ R RO RD RT, Mach F O R RO RD RT → R c (keep ks e) h = some (.ret, e1, h1)) : loopE F O (.loop ks c) e h = some (.ret, e1, h1) := loop_ret (hb _ _ _ _ (mach F O))
theorem runM (hb : ∀ R RO RD RT, Mach F O R RO RD RT → R c e h = some r) : runE F O c e h = some r := hb _ _ _ _ (mach F O)
end
end Go.Abs
