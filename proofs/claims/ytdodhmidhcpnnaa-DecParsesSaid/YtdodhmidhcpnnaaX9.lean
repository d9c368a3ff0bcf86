/- The abstract machine, part 9: which operation stands for which, and that each does what Go's does. -/
import Derived.Test.YtdodhmidhcpnnaaX8
import Derived.KernelRfl
import Derived.Laws.Externs
set_option linter.unusedVariables false
set_option linter.unusedSimpArgs false
namespace Go.Abs

def isInt (P : Program) (t : TypeId) (k : IntKind) : Bool := match P.underlying t with | some (.int k') => decide (k = k') | _ => false
def isStr (P : Program) (t : TypeId) : Bool := match P.underlying t with | some .string => true | _ => false
def isBoolT (P : Program) (t : TypeId) : Bool := match P.underlying t with | some .bool => true | _ => false
def slTy (P : Program) (t : TypeId) : Option TypeId := match P.underlying t with | some (.slice e) => some e | _ => none
def isBytes (P : Program) (t : TypeId) : Bool := match slTy P t with | some e => isInt P e .u8 | none => false
def rowOkTy (P : Program) (e sz by_ : Nat) : Bool :=
  match P.info? e with
  | some i => i.size == sz && i.bytes == by_ && (match i.zero with | some z => z.cells.size == sz | none => false) && decide (0 < sz) && decide (0 < by_)
  | none => false

def okCallB (b : Builtin) (c : Call) : Bool := match c.callee with | .builtin b' => decide (b = b') | _ => false

def carryName (sub : Bool) : String := if sub then "math/bits.Sub64" else "math/bits.Add64"
def okCarry (P : Program) (sub : Bool) (f : Nat) : Bool :=
  match P.funcs[f]? with
  | some fn => fn.name == carryName sub && fn.body.isNone && fn.origin == ""
  | none => false

def okOp (P : Program) (a : AOp) (o : Oper) : Bool :=
  match a, o.op with
  | .stuck, _ => true
  | .mov x, .move y => okO x y
  | .mov x, .assign y => okO x y
  | .pick c a b, .pick c' a' b' => okO c c' && okO a a' && okO b b'
  | .bin p x y, .binOp p' _ x' y' _ => decide (p = p') && okO x x' && okO y y'
  | .eqb neg x y, .binOp p t x' y' _ => decide (p = if neg then .neq else .eql) && isBoolT P t && okO x x' && okO y y'
  | .eqn sl neg x y, .binOp p t x' y' _ => decide (p = if neg then .neq else .eql) && nilTy P sl t && okO x x' && okO y y'
  | .eqa ks neg x y, .binOp p t x' y' _ => decide (p = if neg then .neq else .eql) && eqTy P t ks && okO x x' && okO y y'
  | .un p x, .unOp p' _ x' => decide (p = p') && okO x x'
  | .conv k x, .convert s d x' => (P.underlying s).isSome && isInt P d k && okO x x'
  | .same x, .convert s d x' => (P.underlying s).isSome && isStr P d && okO x x'
  | .b2s x, .convert s d x' => isBytes P s && isStr P d && okO x x'
  | .s2b x, .convert s d x' => isStr P s && isBytes P d && okO x x'
  | .nilck x, .nilCheck x' => okO x x'
  | .fld off x, .fieldAddr s x' f => okO x x' && (match P.underlying s with
    | some (.struct fs) => (match fs[f]? with | some fd => fd.offset == off && (match szTy P fd.type with | some m => m != 0 | none => false) | none => false)
    | _ => false)
  | .ixa len sz x i, .indexAddr t x' i' => okO x x' && okO i i' && (match P.underlying t with | some (.array n e) => n == len && szTy P e == some sz | _ => false)
  | .ixs sz x i, .indexAddr t x' i' => okO x x' && okO i i' && (match slTy P t with | some e => szTy P e == some sz | none => false)
  | .ixstr x i, .index t x' i' => okO x x' && okO i i' && isStr P t
  | .ixv len sz ag x i, .index t x' i' => okO x x' && okO i i' && (match P.underlying t with | some (.array n e) => n == len && szTy P e == some sz && aggTy P e == some ag | _ => false)
  | .part ag off sz x, .field t x' f => okO x x' && (match P.underlying t with
    | some (.struct fs) => (match fs[f]? with | some fd => fd.offset == off && szTy P fd.type == some sz && aggTy P fd.type == some ag | none => false)
    | _ => false)
  | .load ag n x, .load t x' => okO x x' && aggTy P t == some ag && szTy P t == some n && (ag || n == 1)
  | .store n x v, .store t x' v' => okO x x' && okO v v' && szTy P t == some n
  | .alloc z, .alloc t => zeroOk P t z
  | .box v, .box _ v' => okO v v'
  | .build z ps, .build t qs => zeroOk P t z && sizesOk P t && buildOk P t ps qs.toList
  | .bimm n sz z ps, .buildSlice t n' qs => (match slTy P t with | some e => zeroOk P e z && szTy P e == some sz | none => false) && z.length == sz && decide (n * sz ≤ 16777216) && n == n' && rowOk sz ps qs.toList
  | .brow e sz n z ps, .buildSlice t n' qs => slTy P t == some e && zeroOk P e z && szTy P e == some sz && z.length == sz && decide (n * sz ≤ 16777216) && decide (0 < sz) && n == n' && rowOk sz ps qs.toList
  | .brov e sz n z ps, .buildSlice t n' qs => slTy P t == some e && zeroOk P e z && szTy P e == some sz && z.length == sz && decide (n * sz ≤ 16777216) && decide (0 < sz) && n == n' && rowOk sz ps qs.toList
  | .frz x, .convert s d x' => s == d && isBytes P d && okO x x'
  | .mkrow e sz by_ z x, .makeSlice t l c => slTy P t == some e && zeroOk P e z && z.length == sz && rowOkTy P e sz by_ && okO x l && okO x c
  | .app e sz by_ x y, .call c => okCallB .append c && (match c.args.toList, c.argTypes.toList with
    | [x', y'], [t, t'] => okO x x' && okO y y' && t == t' && slTy P t == some e && rowOkTy P e sz by_
    | _, _ => false)
  | .len x, .call c => okCallB .len c && (match c.args.toList, c.argTypes.toList with | [x'], [t] => okO x x' && (slTy P t).isSome | _, _ => false)
  | .lens x, .call c => okCallB .len c && (match c.args.toList, c.argTypes.toList with | [x'], [t] => okO x x' && isStr P t | _, _ => false)
  | .lena n, .call c => okCallB .len c && (match c.args.toList, c.argTypes.toList with
    | [_], [t] => (match P.underlying t with | some (.array m _) => m == n | some (.pointer a) => (match P.underlying a with | some (.array m _) => m == n | _ => false) | _ => false)
    | _, _ => false)
  | .mx x y, .call c => okCallB .max c && (match c.args.toList with | [x', y'] => okO x x' && okO y y' | _ => false)
  | .mn x y, .call c => okCallB .min c && (match c.args.toList with | [x', y'] => okO x x' && okO y y' | _ => false)
  | .slc sz x lo hi, .slice t x' lo' hi' m => okO x x' && okOo lo lo' && okOo hi hi' && m.isNone && decide (0 < sz) && (match slTy P t with | some e => szTy P e == some sz | none => false)
  | .slstr x lo hi, .slice t x' lo' hi' m => okO x x' && okOo lo lo' && okOo hi hi' && m.isNone && isStr P t
  | .extract i x, .extract x' i' => okO x x' && i == i'
  | .mkfn f caps, .makeFunc (.func f') first caps' => f == f' && first.toList.isEmpty && okOs caps caps'.toList
  | .carry sub f x y c, .call cl => okCarry P sub f && (match cl.callee, cl.args.toList with
    | .value (.func g), [x', y', c'] => f == g && okO x x' && okO y y' && okO c c'
    | _, _ => false)
  | _, _ => false

theorem isInt_spec {P : Program} {t : TypeId} {k : IntKind} (h : isInt P t k = true) : P.underlying t = some (.int k) := by
  unfold isInt at h; split at h
  · rename_i k' hk; rw [hk]; simp at h; rw [h]
  · simp at h
theorem isStr_spec {P : Program} {t : TypeId} (h : isStr P t = true) : P.underlying t = some .string := by
  unfold isStr at h; split at h
  · rename_i hk; exact hk
  · simp at h
theorem isBoolT_spec {P : Program} {t : TypeId} (h : isBoolT P t = true) : P.underlying t = some .bool := by
  unfold isBoolT at h; split at h
  · rename_i hk; exact hk
  · simp at h
theorem slTy_spec {P : Program} {t e : TypeId} (h : slTy P t = some e) : P.underlying t = some (.slice e) := by
  unfold slTy at h; split at h
  · rename_i e' hk; injection h with h; rw [hk, h]
  · simp at h
theorem isBytes_spec {P : Program} {t : TypeId} (h : isBytes P t = true) : ∃ e, P.underlying t = some (.slice e) ∧ P.underlying e = some (.int .u8) := by
  unfold isBytes at h; split at h
  · rename_i e hk; exact ⟨e, slTy_spec hk, isInt_spec h⟩
  · simp at h
theorem zeroOk_spec {P : Program} {t : TypeId} {z : List SV} (h : zeroOk P t z = true) : ∃ i v, P.info? t = some i ∧ i.zero = some v ∧ scsOk z v.cells.toList = true := by
  unfold zeroOk at h
  cases hi : P.info? t with
  | none => simp [hi] at h
  | some i =>
    cases hz : i.zero with
    | none => simp [hi, hz] at h
    | some v => exact ⟨i, v, rfl, hz, by simpa [hi, hz] using h⟩
theorem szTy_info {P : Program} {t : TypeId} {i : TypeInfo} {n : Nat} (hi : P.info? t = some i) (h : szTy P t = some n) : i.size = n := by simpa [szTy, hi] using h
theorem rowOkTy_spec {P : Program} {e sz by_ : Nat} (h : rowOkTy P e sz by_ = true) : ∃ i z, P.info? e = some i ∧ i.zero = some z ∧ i.size = sz ∧ i.bytes = by_ ∧ z.cells.size = sz ∧ 0 < sz ∧ 0 < by_ := by
  unfold rowOkTy at h
  cases hi : P.info? e with
  | none => simp [hi] at h
  | some i =>
    cases hz : i.zero with
    | none => simp [hi, hz] at h
    | some z =>
      simp only [hi, hz, Bool.and_eq_true, beq_iff_eq, decide_eq_true_eq] at h
      exact ⟨i, z, rfl, hz, h.1.1.1.1, h.1.1.1.2, h.1.1.2, h.1.2, h.2⟩
theorem okCallB_spec {b : Builtin} {c : Call} (h : okCallB b c = true) : c.callee = .builtin b := by
  unfold okCallB at h; split at h
  · rename_i b' hb; rw [hb]; simp at h; rw [h]
  · simp at h

def carryRow (sub : Bool) : Array Value → Sem Value := fun args => do
  let (x, y, c) ← Extern.MathBitsCarry.three (if sub then "Sub64" else "Add64") args
  pure (if sub then Extern.MathBitsCarry.pair ((x + Extern.MathBitsCarry.m64 - y - c) % Extern.MathBitsCarry.m64) (if x < y + c then 1 else 0)
    else Extern.MathBitsCarry.pair ((x + y + c) % Extern.MathBitsCarry.m64) ((x + y + c) / Extern.MathBitsCarry.m64))

theorem carry_generic (sub : Bool) : Extern.allGenericRows.lookup (carryName sub) = none := by cases sub <;> kernel_rfl
theorem carry_typed (sub : Bool) : Extern.allTypedRows.lookup (carryName sub) = none := by cases sub <;> kernel_rfl
theorem carry_next (sub : Bool) : Extern.allNextRows.lookup (carryName sub) = none := by cases sub <;> kernel_rfl
theorem next_empty : Extern.allNextRows.lookup "" = none := by kernel_rfl
theorem carry_all (sub : Bool) : Extern.allRows.lookup (carryName sub) = some (carryRow sub) := by cases sub <;> kernel_rfl

theorem run_carry_add {P : Program} {w : World} (k1 k2 k3 : IntKind) (a b d : Nat) (hd : d ≤ 1) : (carryRow false #[.int k1 (a : Int), .int k2 (b : Int), .int k3 (d : Int)]).run P w =
    .ok (.tuple #[.int .u64 ((((a + b + d) % 18446744073709551616 : Nat)) : Int), .int .u64 ((((a + b + d) / 18446744073709551616 : Nat)) : Int)]) w := by
  have : d = 0 ∨ d = 1 := by omega
  rcases this with rfl | rfl <;> rfl
theorem run_carry_sub {P : Program} {w : World} (k1 k2 k3 : IntKind) (a b d : Nat) (hd : d ≤ 1) : (carryRow true #[.int k1 (a : Int), .int k2 (b : Int), .int k3 (d : Int)]).run P w =
    .ok (.tuple #[.int .u64 ((((a + 18446744073709551616 - b - d) % 18446744073709551616 : Nat)) : Int), .int .u64 ((if a < b + d then 1 else 0 : Nat) : Int)]) w := by
  have : d = 0 ∨ d = 1 := by omega
  rcases this with rfl | rfl <;> rfl

theorem okCarry_spec {P : Program} {sub : Bool} {f : Nat} (h : okCarry P sub f = true) : ∃ fn, P.funcs[f]? = some fn ∧ fn.body.isNone = true ∧ ∀ args (w : World), (callFunc f args).run P w = ((carryRow sub args).run P w).andThen fun v w' => .ok (.value v) w' := by
  unfold okCarry at h
  split at h
  · rename_i fn hf
    simp only [Bool.and_eq_true, beq_iff_eq] at h
    obtain ⟨⟨h1, h2⟩, h3⟩ := h
    refine ⟨fn, hf, h2, fun args w => ?_⟩
    refine run_callFunc_extern hf ?_ h2 ?_ ?_ args w
    · rw [h1]; cases sub <;> decide
    · simp only [Extern.findNext, h1, h3, carry_next, next_empty]
      rfl
    · simp only [Extern.find, h1, carry_generic, carry_typed, carry_all]
      rfl
  · simp at h

def OpGood (P : Program) (base : Nat) (σ : Nat → Addr) (h : Heap) (w : World) (m : Sem Next) (tv : TV) (h' : Heap) : Prop :=
  ∃ σ' w' n, m.run P w = .ok n w' ∧ HR base σ' h' w' ∧ Ext σ h w σ' h' w' ∧ ((∃ v, n = .value v ∧ TVR σ' h' w' tv v) ∨ (n = .skip ∧ tv = []))

section
variable {P : Program} {base : Nat} {σ : Nat → Addr} {h h' : Heap} {w : World} {tv : TV}

theorem Good.op {m : Sem Value} (g : Good P base σ h w m tv h') : OpGood P base σ h w (do pure (Next.value (← m))) tv h' := by
  obtain ⟨σ', w', v, h1, h2, h3, h4⟩ := g
  exact ⟨σ', w', .value v, by rw [Sem.run_bind, h1]; rfl, h2, h3, .inl ⟨v, rfl, h4⟩⟩

theorem OpGood.pure (H : HR base σ h w) {v : Value} (hv : TVR σ h w tv v) : OpGood P base σ h w (Pure.pure (Next.value v)) tv h := ⟨σ, w, .value v, rfl, H, Ext.refl _ _ _, .inl ⟨v, rfl, hv⟩⟩

/-- a step's test, and what stands behind it -/
theorem some_pair {α β : Type} {a a' : α} {b b' : β} (h : some (a, b) = some (a', b')) : a = a' ∧ b = b' := by injection h with h; injection h with h1 h2; exact ⟨h1, h2⟩

theorem fillA_length {e : Env} : ∀ (ps : List (Nat × Nat × Opd)) (cs cs' : List SV), fillA ps e cs = some cs' → cs'.length = cs.length
  | [], cs, cs', hf => by simp only [fillA] at hf; injection hf with hf; rw [hf]
  | (o, s, x) :: ps, cs, cs', hf => by
    simp only [fillA] at hf
    split at hf
    · split at hf
      · split at hf
        · rw [fillA_length ps _ _ hf, setCells_length]
        · contradiction
      · contradiction
    · contradiction

theorem bound_R {e : Env} {ρ : Operand → Value} (hρ : ∀ x y, okO x y = true → TVR σ h w (x.ev e) (ρ y)) {lo : Option Opd} {lo' : Option Operand} (hk : okOo lo lo' = true) {d l : Nat} (hb : bound e d lo = some l) :
    (lo'.map ρ) = none ∧ l = d ∨ ∃ k, (lo'.map ρ) = some (.int k (l : Int)) := by
  cases lo <;> cases lo' <;> simp only [okOo, Bool.false_eq_true] at hk
  · simp only [bound] at hb
    injection hb with hb
    exact .inl ⟨rfl, hb.symm⟩
  · simp only [bound] at hb
    obtain ⟨k, hk'⟩ := natOf_R hb (hρ _ _ hk)
    exact .inr ⟨k, by simp [hk']⟩

theorem natOf_in {x : TV} {n : Nat} (hn : natOf x = some n) {v : Value} (hv : TVR σ h w x v) : ∃ k, v = .int k (n : Int) := natOf_R hn hv

theorem caps_R {e : Env} {ρ : Operand → Value} (hρ : ∀ x y, okO x y = true → TVR σ h w (x.ev e) (ρ y)) : ∀ (caps : List Opd) (caps' : List Operand) (cs : List (Nat × Nat × Nat)), okOs caps caps' = true → mapM' (fun x => capOf (x.ev e)) caps = some cs →
    (caps'.map ρ).length = cs.length ∧ ∀ (i : Nat) (p : Nat × Nat × Nat) (u : Value), cs[i]? = some p → (caps'.map ρ)[i]? = some u → ∃ B, h[p.1]? = some B ∧ p.2.2 ≤ B.c.length ∧ (p.2.2 = B.c.length → u = .pointer (some ((σ p.1).add p.2.1)))
  | [], [], cs, _, hm => by simp only [mapM'] at hm; injection hm with hm; subst hm; exact ⟨rfl, fun i p u hp => by simp at hp⟩
  | x :: caps, y :: caps', cs, hk, hm => by
    simp only [okOs, Bool.and_eq_true] at hk
    simp only [mapM'] at hm
    split at hm
    · rename_i c l h1 h2
      injection hm with hm
      subst hm
      obtain ⟨q1, q2⟩ := caps_R hρ caps caps' l hk.2 h2
      refine ⟨by simpa using q1, fun i p u hp hu => ?_⟩
      cases i with
      | zero =>
        simp at hp hu
        subst hp hu
        have hv := hρ x y hk.1
        unfold capOf at h1
        split at h1
        · rename_i b o n heq
          injection h1 with h1
          subst h1
          rw [heq] at hv
          obtain ⟨B, hB, r1, _, r2⟩ := hv
          exact ⟨B, hB, r1, r2⟩
        · contradiction
      | succ i => exact q2 i p u (by simpa using hp) (by simpa using hu)
    · contradiction
  | [], _ :: _, _, hk, _ => by simp [okOs] at hk
  | _ :: _, [], _, hk, _ => by simp [okOs] at hk

set_option maxHeartbeats 1600000 in
theorem op_run (H : HR base σ h w) {e : Env} {ρ : Operand → Value} (hρf : ∀ f, ρ (.func f) = .func (.func f) #[] #[]) (hρ : ∀ x y, okO x y = true → TVR σ h w (x.ev e) (ρ y)) {a : AOp} {o : Oper} (hok : okOp P a o = true) (hs : step a e h = some (tv, h')) : OpGood P base σ h w (execOp ρ o) tv h' := by
  obtain ⟨dst, op, type, pos, after, guard⟩ := o
  cases a with
  | mov x =>
    simp only [step] at hs
    obtain ⟨rfl, rfl⟩ := some_pair hs
    cases op <;> simp only [okOp, Bool.false_eq_true] at hok
    · exact OpGood.pure H (hρ _ _ hok)
    · exact OpGood.pure H (hρ _ _ hok)
  | pick c x y =>
    cases op <;> simp only [okOp, Bool.false_eq_true, Bool.and_eq_true] at hok
    rename_i c' x' y'
    simp only [step] at hs
    split at hs
    · rename_i t hc
      obtain ⟨rfl, rfl⟩ := some_pair hs
      have h1 := hρ _ _ hok.1.1
      rw [hc] at h1
      simp only [execOp]
      rw [sc_bool h1]
      refine ⟨σ, w, .value (if t then ρ x' else ρ y'), rfl, H, Ext.refl _ _ _, .inl ⟨_, rfl, ?_⟩⟩
      · cases t
        · exact hρ _ _ hok.2
        · exact hρ _ _ hok.1.2
    · contradiction
  | bin p x y =>
    cases op <;> simp only [okOp, Bool.false_eq_true, Bool.and_eq_true, decide_eq_true_eq] at hok
    simp only [step] at hs
    split at hs
    · rename_i a b ha hb
      have h1 := hρ _ _ hok.1.2
      have h2 := hρ _ _ hok.2
      rw [ha] at h1
      rw [hb] at h2
      obtain ⟨⟨rfl, _⟩, _⟩ := hok
      exact (g_bin H hs h1 h2 _ _ _).op
    · contradiction
  | eqb neg x y =>
    cases op <;> simp only [okOp, Bool.false_eq_true, Bool.and_eq_true, decide_eq_true_eq] at hok
    simp only [step] at hs
    split at hs
    · rename_i a b ha hb
      have h1 := hρ _ _ hok.1.2
      have h2 := hρ _ _ hok.2
      rw [ha] at h1
      rw [hb] at h2
      obtain ⟨⟨⟨rfl, ht⟩, _⟩, _⟩ := hok
      obtain ⟨rfl, rfl⟩ := some_pair hs
      simp only [execOp]
      rw [sc_bool h1, sc_bool h2]
      exact (g_eqb H (neg := neg) (a := a) (b := b) (isBoolT_spec ht) _ _).op
    · contradiction
  | eqn sl neg x y =>
    cases op <;> simp only [okOp, Bool.false_eq_true, Bool.and_eq_true, decide_eq_true_eq] at hok
    simp only [step] at hs
    split at hs
    · rename_i a b ha hb
      split at hs
      · rename_i p q hp hq
        split at hs
        · rename_i hpq
          have h1 := hρ _ _ hok.1.2
          have h2 := hρ _ _ hok.2
          rw [ha] at h1
          rw [hb] at h2
          obtain ⟨⟨⟨rfl, ht⟩, _⟩, _⟩ := hok
          obtain ⟨rfl, rfl⟩ := some_pair hs
          exact (g_eqn H hp hq hpq h1 h2 ht _ _).op
        · contradiction
      · contradiction
    · contradiction
  | eqa ks neg x y =>
    cases op <;> simp only [okOp, Bool.false_eq_true, Bool.and_eq_true, decide_eq_true_eq] at hok
    simp only [step] at hs
    split at hs
    · rename_i l m ha hb
      split at hs
      · rename_i t ht
        have h1 := hρ _ _ hok.1.2
        have h2 := hρ _ _ hok.2
        rw [ha] at h1
        rw [hb] at h2
        obtain ⟨⟨⟨rfl, hty⟩, _⟩, _⟩ := hok
        obtain ⟨rfl, rfl⟩ := some_pair hs
        obtain ⟨xs, e1, a1⟩ := h1
        obtain ⟨ys, e2, a2⟩ := h2
        simp only [execOp]
        rw [e1, e2]
        exact (g_eqa H hty a1 a2 ht _ _).op
      · contradiction
    · contradiction
  | un p x =>
    cases op <;> simp only [okOp, Bool.false_eq_true, Bool.and_eq_true, decide_eq_true_eq] at hok
    simp only [step] at hs
    split at hs
    · rename_i a ha
      have h1 := hρ _ _ hok.2
      rw [ha] at h1
      obtain ⟨rfl, _⟩ := hok
      exact (g_un H hs h1).op
    · contradiction
  | conv k x =>
    cases op <;> simp only [okOp, Bool.false_eq_true, Bool.and_eq_true, decide_eq_true_eq] at hok
    simp only [step] at hs
    split at hs
    · rename_i k' n ha
      have h1 := hρ _ _ hok.2
      rw [ha] at h1
      obtain ⟨rfl, rfl⟩ := some_pair hs
      obtain ⟨⟨hsrc, hd⟩, _⟩ := hok
      obtain ⟨ds, hds⟩ := Option.isSome_iff_exists.1 hsrc
      simp only [execOp]
      rw [sc_int h1]
      exact (g_conv H hds (isInt_spec hd)).op
    · contradiction
  | same x =>
    cases op <;> simp only [okOp, Bool.false_eq_true, Bool.and_eq_true, decide_eq_true_eq] at hok
    simp only [step] at hs
    split at hs
    · rename_i l ha
      have h1 := hρ _ _ hok.2
      rw [ha] at h1
      obtain ⟨rfl, rfl⟩ := some_pair hs
      obtain ⟨⟨hsrc, hd⟩, _⟩ := hok
      obtain ⟨ds, hds⟩ := Option.isSome_iff_exists.1 hsrc
      simp only [execOp]
      rw [sc_str h1]
      exact (g_same H hds (isStr_spec hd)).op
    · contradiction
  | b2s x =>
    cases op <;> simp only [okOp, Bool.false_eq_true, Bool.and_eq_true, decide_eq_true_eq] at hok
    obtain ⟨⟨h1, h2⟩, h3⟩ := hok
    obtain ⟨el, hs1, hs2⟩ := isBytes_spec h1
    have hx := hρ _ _ h3
    simp only [step] at hs
    split at hs
    · rename_i ha
      obtain ⟨rfl, rfl⟩ := some_pair hs
      rw [ha] at hx
      exact (g_b2s H hs1 hs2 (isStr_spec h2) (y := .sc .nils) (m := 0) (cs := []) rfl rfl hx).op
    · rename_i y ha
      split at hs
      · rename_i m cs hsrc
        split at hs
        · rename_i l hl
          obtain ⟨rfl, rfl⟩ := some_pair hs
          rw [ha] at hx
          exact (g_b2s H hs1 hs2 (isStr_spec h2) hsrc hl hx).op
        · contradiction
      · contradiction
    · contradiction
  | s2b x =>
    cases op <;> simp only [okOp, Bool.false_eq_true, Bool.and_eq_true, decide_eq_true_eq] at hok
    obtain ⟨⟨h1, h2⟩, h3⟩ := hok
    obtain ⟨el, hs1, hs2⟩ := isBytes_spec h2
    have hx := hρ _ _ h3
    simp only [step] at hs
    split at hs
    · rename_i l ha
      split at hs
      · obtain ⟨rfl, rfl⟩ := some_pair hs
        rw [ha] at hx
        simp only [execOp]
        rw [sc_str hx]
        exact (g_s2b H (isStr_spec h1) hs1 hs2 l).op
      · contradiction
    · contradiction
  | nilck x =>
    cases op <;> simp only [okOp, Bool.false_eq_true, Bool.and_eq_true, decide_eq_true_eq] at hok
    have hx := hρ _ _ hok
    simp only [step] at hs
    split at hs
    · rename_i b o' n ha
      split at hs
      · rename_i hf
        obtain ⟨rfl, rfl⟩ := some_pair hs
        rw [ha] at hx
        have hp := fresh_ptr hx hf
        simp only [execOp]
        rw [hp]
        rw [hp] at hx
        exact OpGood.pure H hx
      · contradiction
    · rename_i f c ha
      obtain ⟨rfl, rfl⟩ := some_pair hs
      rw [ha] at hx
      obtain ⟨vs, hp, q⟩ := id hx
      simp only [execOp]
      rw [hp]
      rw [hp] at hx
      exact OpGood.pure H hx
    · contradiction
  | fld off x =>
    cases op <;> simp only [okOp, Bool.false_eq_true, Bool.and_eq_true, decide_eq_true_eq] at hok
    obtain ⟨h1, h2⟩ := hok
    have hx := hρ _ _ h1
    simp only [step] at hs
    split at hs
    · rename_i b o' n ha
      split at hs
      · rename_i hf
        obtain ⟨rfl, rfl⟩ := some_pair hs
        rw [ha] at hx
        split at h2
        · rename_i fs hu
          split at h2
          · rename_i fd hfd
            simp only [Bool.and_eq_true, beq_iff_eq] at h2
            obtain ⟨h2, h3⟩ := h2
            split at h3
            · rename_i m hm
              exact (g_fld H hu hfd h2 hm (by simpa using h3) hx hf).op
            · simp at h3
          · simp at h2
        · simp at h2
      · contradiction
    · contradiction
  | ixa len sz x i =>
    cases op <;> simp only [okOp, Bool.false_eq_true, Bool.and_eq_true, decide_eq_true_eq] at hok
    obtain ⟨⟨h1, h2⟩, h3⟩ := hok
    have hx := hρ _ _ h1
    have hi := hρ _ _ h2
    simp only [step] at hs
    split at hs
    · rename_i b o' n j ha hj
      split at hs
      · rename_i hf
        obtain ⟨rfl, rfl⟩ := some_pair hs
        rw [ha] at hx
        obtain ⟨k, hk⟩ := natOf_R hj hi
        simp only [Bool.and_eq_true] at hf
        split at h3
        · rename_i n' el hu
          simp only [Bool.and_eq_true, beq_iff_eq] at h3
          obtain ⟨rfl, h4⟩ := h3
          simp only [execOp]
          rw [hk]
          exact (g_ixa H hu h4 hx hf.1 (by have := hf.2; simp [Nat.blt] at this; omega)).op
        · simp at h3
      · contradiction
    · contradiction
  | ixs sz x i =>
    cases op <;> simp only [okOp, Bool.false_eq_true, Bool.and_eq_true, decide_eq_true_eq] at hok
    obtain ⟨⟨h1, h2⟩, h3⟩ := hok
    have hx := hρ _ _ h1
    have hi := hρ _ _ h2
    simp only [step] at hs
    split at hs
    · rename_i b o' n c j ha hj
      split at hs
      · rename_i hf
        obtain ⟨rfl, rfl⟩ := some_pair hs
        rw [ha] at hx
        obtain ⟨k, hk⟩ := natOf_R hj hi
        simp only [Bool.and_eq_true] at hf
        split at h3
        · rename_i el hu
          simp only [beq_iff_eq] at h3
          simp only [execOp]
          rw [hk]
          exact (g_ixs H (slTy_spec hu) h3 hx hf.1 (by have := hf.2; simp [Nat.blt] at this; omega)).op
        · simp at h3
      · contradiction
    · contradiction
  | ixstr x i =>
    cases op <;> simp only [okOp, Bool.false_eq_true, Bool.and_eq_true, decide_eq_true_eq] at hok
    obtain ⟨⟨h1, h2⟩, h3⟩ := hok
    have hx := hρ _ _ h1
    have hi := hρ _ _ h2
    simp only [step] at hs
    split at hs
    · rename_i l j ha hj
      split at hs
      · rename_i c hc
        obtain ⟨rfl, rfl⟩ := some_pair hs
        rw [ha] at hx
        obtain ⟨k, hk⟩ := natOf_R hj hi
        simp only [execOp]
        rw [hk, sc_str hx]
        exact (g_ixstr H (isStr_spec h3) hc).op
      · contradiction
    · contradiction
  | ixv len sz ag x i =>
    cases op <;> simp only [okOp, Bool.false_eq_true, Bool.and_eq_true, decide_eq_true_eq] at hok
    obtain ⟨⟨h1, h2⟩, h3⟩ := hok
    have hx := hρ _ _ h1
    have hi := hρ _ _ h2
    simp only [step] at hs
    split at hs
    · rename_i l j ha hj
      split at hs
      · rename_i hc
        rw [ha] at hx
        obtain ⟨k, hk⟩ := natOf_R hj hi
        obtain ⟨cs, he, hall⟩ := hx
        split at h3
        · rename_i n' el hu
          simp only [Bool.and_eq_true, beq_iff_eq] at h3
          obtain ⟨⟨rfl, h4⟩, h5⟩ := h3
          obtain ⟨rfl, g⟩ := g_ixv (P := P) (k := k) H hu h5 h4 hall hc.1 hs
          simp only [execOp]
          rw [hk, he]
          exact g.op
        · simp at h3
      · contradiction
    · contradiction
  | part ag off sz x =>
    cases op <;> simp only [okOp, Bool.false_eq_true, Bool.and_eq_true, decide_eq_true_eq] at hok
    obtain ⟨h1, h3⟩ := hok
    have hx := hρ _ _ h1
    simp only [step] at hs
    split at hs
    · rename_i l ha
      split at hs
      · rw [ha] at hx
        obtain ⟨cs, he, hall⟩ := hx
        split at h3
        · rename_i fs hu
          split at h3
          · rename_i fd hfd
            simp only [Bool.and_eq_true, beq_iff_eq] at h3
            obtain ⟨⟨h3, h4⟩, h5⟩ := h3
            obtain ⟨rfl, g⟩ := g_part (P := P) H hu hfd h3 h5 h4 hall hs
            simp only [execOp]
            rw [he]
            exact g.op
          · simp at h3
        · simp at h3
      · contradiction
    · contradiction
  | load ag n x =>
    cases op <;> simp only [okOp, Bool.false_eq_true, Bool.and_eq_true, decide_eq_true_eq, beq_iff_eq] at hok
    obtain ⟨⟨⟨h1, h2⟩, h3⟩, h4⟩ := hok
    have hx := hρ _ _ h1
    simp only [step] at hs
    split at hs
    · rename_i b o' k ha
      rw [ha] at hx
      obtain ⟨rfl, g⟩ := g_load (P := P) H h2 h3 (fun hf => by subst hf; simpa using h4) hx hs
      exact g.op
    · contradiction
  | store n x v =>
    cases op <;> simp only [okOp, Bool.false_eq_true, Bool.and_eq_true, decide_eq_true_eq, beq_iff_eq] at hok
    obtain ⟨⟨h1, h2⟩, h3⟩ := hok
    have hx := hρ _ _ h1
    have hv := hρ _ _ h2
    simp only [step] at hs
    split at hs
    · rename_i b o' k y ha hy
      rw [ha] at hx
      rw [hy] at hv
      obtain ⟨rfl, w', r1, r2, r3⟩ := g_store (P := P) H h3 hx hv hs
      exact ⟨σ, w', .skip, by simp only [execOp]; rw [Sem.run_bind, r1]; rfl, r2, r3, .inr ⟨rfl, rfl⟩⟩
    · contradiction
  | alloc z =>
    cases op <;> simp only [okOp, Bool.false_eq_true, Bool.and_eq_true, decide_eq_true_eq, beq_iff_eq] at hok
    simp only [step] at hs
    obtain ⟨rfl, rfl⟩ := some_pair hs
    obtain ⟨i, v, q1, q2, q3⟩ := zeroOk_spec hok
    exact (g_alloc H (by rw [q1]; exact q2) q3).op
  | box v =>
    cases op <;> simp only [okOp, Bool.false_eq_true, Bool.and_eq_true, decide_eq_true_eq, beq_iff_eq] at hok
    have hv := hρ _ _ hok
    simp only [step] at hs
    split at hs
    · rename_i y hy
      split at hs
      · rename_i cs hcs
        obtain ⟨rfl, rfl⟩ := some_pair hs
        rw [hy] at hv
        exact (g_box H hcs hv).op
      · contradiction
    · contradiction
  | build z ps =>
    cases op <;> simp only [okOp, Bool.false_eq_true, Bool.and_eq_true, decide_eq_true_eq, beq_iff_eq] at hok
    simp only [step] at hs
    split at hs
    · rename_i cs hcs
      obtain ⟨rfl, rfl⟩ := some_pair hs
      exact (g_build H hρ hok.1.1 hok.1.2 hok.2 hcs).op
    · contradiction
  | bimm n sz z ps =>
    cases op <;> simp only [okOp, Bool.false_eq_true, Bool.and_eq_true, decide_eq_true_eq, beq_iff_eq] at hok
    obtain ⟨⟨⟨⟨h1, h2⟩, h3⟩, rfl⟩, h5⟩ := hok
    simp only [step] at hs
    split at hs
    · rename_i cs hcs
      obtain ⟨rfl, rfl⟩ := some_pair hs
      split at h1
      · rename_i el hel
        simp only [Bool.and_eq_true, beq_iff_eq] at h1
        obtain ⟨i, v, q1, q2, q3⟩ := zeroOk_spec h1.1
        exact (g_bimm H hρ (slTy_spec hel) q1 q2 (szTy_info q1 h1.2) q3 h2 h3 h5 hcs).op
      · simp at h1
    · contradiction
  | brow el sz n z ps =>
    cases op <;> simp only [okOp, Bool.false_eq_true, Bool.and_eq_true, decide_eq_true_eq, beq_iff_eq] at hok
    obtain ⟨⟨⟨⟨⟨⟨⟨h1, h2⟩, h3⟩, h4⟩, h5⟩, h6⟩, rfl⟩, h8⟩ := hok
    simp only [step] at hs
    split at hs
    · rename_i cs hcs
      obtain ⟨rfl, rfl⟩ := some_pair hs
      obtain ⟨i, v, q1, q2, q3⟩ := zeroOk_spec h2
      have hcl : cs.length = n * sz := by rw [fillA_length _ _ _ hcs, rep_length, h4]
      exact (g_brow H hρ (slTy_spec h1) q1 q2 (szTy_info q1 h3) q3 h4 h5 h6 h8 hcs hcl).op
    · contradiction
  | brov el sz n z ps =>
    cases op <;> simp only [okOp, Bool.false_eq_true, Bool.and_eq_true, decide_eq_true_eq, beq_iff_eq] at hok
    obtain ⟨⟨⟨⟨⟨⟨⟨h1, h2⟩, h3⟩, h4⟩, h5⟩, h6⟩, rfl⟩, h8⟩ := hok
    simp only [step] at hs
    split at hs
    · rename_i cs hcs
      obtain ⟨rfl, rfl⟩ := some_pair hs
      obtain ⟨i, v, q1, q2, q3⟩ := zeroOk_spec h2
      have hcl : cs.length = n * sz := by rw [fillA_length _ _ _ hcs, rep_length, h4]
      exact (g_brov H hρ (slTy_spec h1) q1 q2 (szTy_info q1 h3) q3 h4 h5 h6 h8 hcs hcl).op
    · contradiction
  | frz x =>
    cases op <;> simp only [okOp, Bool.false_eq_true, Bool.and_eq_true, decide_eq_true_eq, beq_iff_eq] at hok
    obtain ⟨⟨rfl, h2⟩, h3⟩ := hok
    obtain ⟨el, hs1, hs2⟩ := isBytes_spec h2
    have hx := hρ _ _ h3
    simp only [step] at hs
    split at hs
    · rename_i b o n c ha
      split at hs
      · rename_i B hB
        split at hs
        · rename_i hc
          obtain ⟨rfl, hc2, hc3⟩ := hc
          obtain ⟨rfl, rfl⟩ := some_pair hs
          rw [ha] at hx
          exact (g_frz H hs1 hs2 hx hB hc2 hc3).op
        · contradiction
      · contradiction
    · contradiction
  | mkrow el sz by_ z x =>
    cases op <;> simp only [okOp, Bool.false_eq_true, Bool.and_eq_true, decide_eq_true_eq, beq_iff_eq] at hok
    obtain ⟨⟨⟨⟨⟨h1, h2⟩, h3⟩, h4⟩, h5⟩, h6⟩ := hok
    simp only [step] at hs
    split at hs
    · rename_i n hn
      split at hs
      · rename_i hl
        obtain ⟨rfl, rfl⟩ := some_pair hs
        obtain ⟨i, v, q1, q2, q3⟩ := zeroOk_spec h2
        obtain ⟨i', z', p1, p2, p3, p4, p5, p6, p7⟩ := rowOkTy_spec h4
        rw [q1] at p1
        injection p1 with p1
        subst p1
        obtain ⟨k1, e1⟩ := natOf_R hn (hρ _ _ h5)
        obtain ⟨k2, e2⟩ := natOf_R hn (hρ _ _ h6)
        simp only [execOp]
        rw [e1, e2]
        exact (g_mkrow H (slTy_spec h1) q1 q2 p3 p4 q3 h3 p6 hl.1 hl.2 k1 k2).op
      · contradiction
    · contradiction
  | app el sz by_ x y =>
    cases op <;> simp only [okOp, Bool.false_eq_true, Bool.and_eq_true, decide_eq_true_eq, beq_iff_eq] at hok
    rename_i c
    obtain ⟨h1, h2⟩ := hok
    have hcal := okCallB_spec h1
    obtain ⟨callee, args, argTypes⟩ := c
    simp only at hcal h2
    subst hcal
    split at h2
    · rename_i x' y' t t' hargs htys
      simp only [Bool.and_eq_true, beq_iff_eq] at h2
      obtain ⟨⟨⟨⟨h2, h3⟩, rfl⟩, h5⟩, h6⟩ := h2
      have ea : args = #[x', y'] := by rw [← Array.toArray_toList (xs := args), hargs]
      have et : argTypes = #[t, t] := by rw [← Array.toArray_toList (xs := argTypes), htys]
      subst ea et
      have hx := hρ _ _ h2
      have hy := hρ _ _ h3
      simp only [step] at hs
      split at hs
      · rename_i va vb ha hb
        rw [ha] at hx
        rw [hb] at hy
        obtain ⟨i, z, p1, p2, p3, p4, p5, p6, p7⟩ := rowOkTy_spec h6
        have g := (g_app (ty := type) H (slTy_spec h5) p1 p2 p3 p4 p5 p6 p7 hx hy hs).op
        simpa [execOp, resolve, invoke, builtin] using g
      · contradiction
    · simp at h2
  | len x =>
    cases op <;> simp only [okOp, Bool.false_eq_true, Bool.and_eq_true, decide_eq_true_eq, beq_iff_eq] at hok
    rename_i c
    obtain ⟨h1, h2⟩ := hok
    have hcal := okCallB_spec h1
    obtain ⟨callee, args, argTypes⟩ := c
    simp only at hcal h2
    subst hcal
    split at h2
    · rename_i x' t hargs htys
      simp only [Bool.and_eq_true, beq_iff_eq] at h2
      have ea : args = #[x'] := by rw [← Array.toArray_toList (xs := args), hargs]
      have et : argTypes = #[t] := by rw [← Array.toArray_toList (xs := argTypes), htys]
      subst ea et
      have hx := hρ _ _ h2.1
      obtain ⟨el, hel⟩ := Option.isSome_iff_exists.1 h2.2
      have hu := slTy_spec hel
      have key : ∀ (ad : Option Addr) (n cap : Nat), ρ x' = .slice ad n cap → OpGood P base σ h w (execOp ρ ⟨dst, .call ⟨.builtin .len, #[x'], #[t]⟩, type, pos, after, guard⟩) [.sc (.int .i64 n)] h := fun ad n cap hv => by
        refine ⟨σ, w, .value (.int .i64 n), ?_, H, Ext.refl _ _ _, .inl ⟨_, rfl, rfl⟩⟩
        simp [execOp, resolve, invoke, builtin, Builtin.len_, hv, run_underlying hu, goInt]
      simp only [step] at hs
      split at hs
      · rename_i ha
        obtain ⟨rfl, rfl⟩ := some_pair hs
        rw [ha] at hx
        exact key none 0 0 hx
      · rename_i b o' n c ha
        split at hs
        · rename_i hf
          obtain ⟨rfl, rfl⟩ := some_pair hs
          rw [ha] at hx
          obtain ⟨B, hB, he⟩ := freshB_spec hf
          obtain ⟨ad, cap, e1, _⟩ := fresh_sl (w := w) hx hB he
          exact key (some ad) n cap e1
        · contradiction
      · rename_i n l ha
        obtain ⟨rfl, rfl⟩ := some_pair hs
        rw [ha] at hx
        obtain ⟨c, arr, el, e1, _⟩ := hx
        exact key _ n n e1
      · contradiction
    · simp at h2
  | lens x =>
    cases op <;> simp only [okOp, Bool.false_eq_true, Bool.and_eq_true, decide_eq_true_eq, beq_iff_eq] at hok
    rename_i c
    obtain ⟨h1, h2⟩ := hok
    have hcal := okCallB_spec h1
    obtain ⟨callee, args, argTypes⟩ := c
    simp only at hcal h2
    subst hcal
    split at h2
    · rename_i x' t hargs htys
      simp only [Bool.and_eq_true, beq_iff_eq] at h2
      have ea : args = #[x'] := by rw [← Array.toArray_toList (xs := args), hargs]
      have et : argTypes = #[t] := by rw [← Array.toArray_toList (xs := argTypes), htys]
      subst ea et
      have hx := hρ _ _ h2.1
      have hu := isStr_spec h2.2
      simp only [step] at hs
      split at hs
      · rename_i l ha
        obtain ⟨rfl, rfl⟩ := some_pair hs
        rw [ha] at hx
        have hv := sc_str hx
        refine ⟨σ, w, .value (.int .i64 l.length), ?_, H, Ext.refl _ _ _, .inl ⟨_, rfl, rfl⟩⟩
        simp [execOp, resolve, invoke, builtin, Builtin.len_, hv, run_underlying hu, goInt, size_mk]
      · contradiction
    · simp at h2
  | lena n =>
    cases op <;> simp only [okOp, Bool.false_eq_true, Bool.and_eq_true, decide_eq_true_eq, beq_iff_eq] at hok
    rename_i c
    obtain ⟨h1, h2⟩ := hok
    have hcal := okCallB_spec h1
    obtain ⟨callee, args, argTypes⟩ := c
    simp only at hcal h2
    subst hcal
    split at h2
    · rename_i x' t hargs htys
      have ea : args = #[x'] := by rw [← Array.toArray_toList (xs := args), hargs]
      have et : argTypes = #[t] := by rw [← Array.toArray_toList (xs := argTypes), htys]
      subst ea et
      simp only [step] at hs
      obtain ⟨rfl, rfl⟩ := some_pair hs
      refine ⟨σ, w, .value (.int .i64 n), ?_, H, Ext.refl _ _ _, .inl ⟨_, rfl, rfl⟩⟩
      split at h2
      · rename_i m el hu
        simp only [beq_iff_eq] at h2
        subst h2
        simp [execOp, resolve, invoke, builtin, Builtin.len_, run_underlying hu, goInt]
      · rename_i ar hu
        split at h2
        · rename_i m el hu'
          simp only [beq_iff_eq] at h2
          subst h2
          simp [execOp, resolve, invoke, builtin, Builtin.len_, run_underlying hu, run_underlying hu', goInt]
        · simp at h2
      · simp at h2
    · simp at h2
  | mx x y =>
    cases op <;> simp only [okOp, Bool.false_eq_true, Bool.and_eq_true, decide_eq_true_eq, beq_iff_eq] at hok
    rename_i c
    obtain ⟨h1, h2⟩ := hok
    have hcal := okCallB_spec h1
    obtain ⟨callee, args, argTypes⟩ := c
    simp only at hcal h2
    subst hcal
    split at h2
    · rename_i x' y' hargs
      simp only [Bool.and_eq_true] at h2
      have ea : args = #[x', y'] := by rw [← Array.toArray_toList (xs := args), hargs]
      subst ea
      have hx := hρ _ _ h2.1
      have hy := hρ _ _ h2.2
      simp only [step] at hs
      split at hs
      · rename_i k a k' b ha hb
        obtain ⟨rfl, rfl⟩ := some_pair hs
        rw [ha] at hx
        rw [hb] at hy
        have e1 := sc_int hx
        have e2 := sc_int hy
        refine ⟨σ, w, .value (.int k (if b > a then b else a)), ?_, H, Ext.refl _ _ _, .inl ⟨_, rfl, rfl⟩⟩
        simp [execOp, resolve, invoke, builtin, Builtin.max_, Builtin.max2, e1, e2]
      · contradiction
    · simp at h2
  | mn x y =>
    cases op <;> simp only [okOp, Bool.false_eq_true, Bool.and_eq_true, decide_eq_true_eq, beq_iff_eq] at hok
    rename_i c
    obtain ⟨h1, h2⟩ := hok
    have hcal := okCallB_spec h1
    obtain ⟨callee, args, argTypes⟩ := c
    simp only at hcal h2
    subst hcal
    split at h2
    · rename_i x' y' hargs
      simp only [Bool.and_eq_true] at h2
      have ea : args = #[x', y'] := by rw [← Array.toArray_toList (xs := args), hargs]
      subst ea
      have hx := hρ _ _ h2.1
      have hy := hρ _ _ h2.2
      simp only [step] at hs
      split at hs
      · rename_i k a k' b ha hb
        obtain ⟨rfl, rfl⟩ := some_pair hs
        rw [ha] at hx
        rw [hb] at hy
        have e1 := sc_int hx
        have e2 := sc_int hy
        refine ⟨σ, w, .value (.int k (if b < a then b else a)), ?_, H, Ext.refl _ _ _, .inl ⟨_, rfl, rfl⟩⟩
        simp [execOp, resolve, invoke, builtin, Builtin.min_, Builtin.min2, e1, e2]
      · contradiction
    · simp at h2
  | slc sz x lo hi =>
    cases op <;> simp only [okOp, Bool.false_eq_true, Bool.and_eq_true, decide_eq_true_eq, beq_iff_eq] at hok
    obtain ⟨⟨⟨⟨⟨h1, h2⟩, h3⟩, h4⟩, h5⟩, h6⟩ := hok
    have hx := hρ _ _ h1
    have hm := Option.isNone_iff_eq_none.1 h4
    subst hm
    split at h6
    · rename_i el hel
      simp only [beq_iff_eq] at h6
      simp only [step] at hs
      split at hs
      · rename_i b o' n c ha
        rw [ha] at hx
        split at hs
        · rename_i l r B hl hr hB
          split at hs
          · rename_i hc
            obtain ⟨c1, c2, c3, c4, c5⟩ := hc
            obtain ⟨rfl, rfl⟩ := some_pair hs
            exact (g_slc H (slTy_spec hel) h6 h5 hx hB c4 c5 c1 c2 c3 (bound_R hρ h2 hl) (bound_R hρ h3 hr)).op
          · contradiction
        · contradiction
      · rename_i ha
        rw [ha] at hx
        split at hs
        · rename_i l r hl hr
          split at hs
          · rename_i hc
            obtain ⟨rfl, rfl⟩ := hc
            obtain ⟨rfl, rfl⟩ := some_pair hs
            have hv : ρ _ = .slice none 0 0 := hx
            simp only [execOp]
            rw [hv]
            exact (g_slcnil H (slTy_spec hel) h6 (bound_R hρ h2 hl) (bound_R hρ h3 hr)).op
          · contradiction
        · contradiction
      · contradiction
    · simp at h6
  | slstr x lo hi =>
    cases op <;> simp only [okOp, Bool.false_eq_true, Bool.and_eq_true, decide_eq_true_eq, beq_iff_eq] at hok
    obtain ⟨⟨⟨⟨h1, h2⟩, h3⟩, h4⟩, h5⟩ := hok
    have hx := hρ _ _ h1
    have hm := Option.isNone_iff_eq_none.1 h4
    subst hm
    simp only [step] at hs
    split at hs
    · rename_i s ha
      rw [ha] at hx
      split at hs
      · rename_i l r hl hr
        split at hs
        · rename_i hc
          obtain ⟨rfl, rfl⟩ := some_pair hs
          simp only [execOp]
          rw [sc_str hx]
          exact (g_slstr H (isStr_spec h5) hc.1 hc.2 (bound_R hρ h2 hl) (bound_R hρ h3 hr)).op
        · contradiction
      · contradiction
    · contradiction
  | extract i x =>
    cases op <;> simp only [okOp, Bool.false_eq_true, Bool.and_eq_true, decide_eq_true_eq, beq_iff_eq] at hok
    obtain ⟨h1, rfl⟩ := hok
    have hx := hρ _ _ h1
    simp only [step] at hs
    split at hs
    · rename_i a b l ha
      split at hs
      · rename_i v hv
        obtain ⟨rfl, rfl⟩ := some_pair hs
        rw [ha] at hx
        obtain ⟨vs, e1, hall⟩ := hx
        obtain ⟨u, hu, hr⟩ := All2.get hall i v hv
        refine ⟨σ, w, .value u, ?_, H, Ext.refl _ _ _, .inl ⟨_, rfl, hr⟩⟩
        simp [execOp, Instr.extract, e1, hu]
      · contradiction
    · contradiction
  | mkfn f caps =>
    cases op <;> simp only [okOp, Bool.false_eq_true] at hok
    rename_i fn first caps'
    cases fn <;> simp only [okOp, Bool.false_eq_true, Bool.and_eq_true, beq_iff_eq] at hok
    obtain ⟨⟨rfl, h2⟩, h3⟩ := hok
    have hfirst : first = #[] := by
      have : first.toList = [] := by simpa using h2
      rw [← Array.toArray_toList (xs := first), this]
    subst hfirst
    simp only [step] at hs
    split at hs
    · rename_i cs hcs
      obtain ⟨rfl, rfl⟩ := some_pair hs
      obtain ⟨q1, q2⟩ := caps_R hρ caps caps'.toList cs h3 hcs
      refine ⟨σ, w, .value (.func (.func f) #[] (caps'.map ρ)), ?_, H, Ext.refl _ _ _, .inl ⟨_, rfl, caps'.toList.map ρ, ?_, q1, q2⟩⟩
      · simp [execOp, Instr.makeFunc]
      · congr 1
        apply Array.ext'
        simp
    · contradiction
  | carry sub f x y c =>
    cases op <;> simp only [okOp, Bool.false_eq_true, Bool.and_eq_true, decide_eq_true_eq, beq_iff_eq] at hok
    rename_i cl
    obtain ⟨h1, h2⟩ := hok
    obtain ⟨callee, args, argTypes⟩ := cl
    simp only at h2
    split at h2
    · rename_i g x' y' c' hargs
      simp only [Bool.and_eq_true, beq_iff_eq] at h2
      obtain ⟨⟨⟨rfl, hx⟩, hy⟩, hc⟩ := h2
      have ea : args = #[x', y', c'] := by rw [← Array.toArray_toList (xs := args), hargs]
      subst ea
      simp only [step] at hs
      split at hs
      · rename_i a b d ha hb hd
        split at hs
        · rename_i hd1
          obtain ⟨rfl, rfl⟩ := some_pair hs
          obtain ⟨k1, e1⟩ := natOf_R ha (hρ _ _ hx)
          obtain ⟨k2, e2⟩ := natOf_R hb (hρ _ _ hy)
          obtain ⟨k3, e3⟩ := natOf_R hd (hρ _ _ hc)
          obtain ⟨fn, hf, hb', hsub⟩ := okCarry_spec h1
          have hval : ∃ u v : Nat, (callFunc f #[.int k1 (a : Int), .int k2 (b : Int), .int k3 (d : Int)]).run P w = .ok (.value (.tuple #[.int .u64 (u : Int), .int .u64 (v : Int)])) w ∧
              (if sub then [AV.sc (.int .u64 ((a + 18446744073709551616 - b - d) % 18446744073709551616 : Nat)), .sc (.int .u64 (if a < b + d then 1 else 0 : Nat))]
                else [.sc (.int .u64 ((a + b + d) % 18446744073709551616 : Nat)), .sc (.int .u64 ((a + b + d) / 18446744073709551616 : Nat))]) = [.sc (.int .u64 u), .sc (.int .u64 v)] := by
            cases sub
            · exact ⟨(a + b + d) % 18446744073709551616, (a + b + d) / 18446744073709551616, by rw [hsub, run_carry_add k1 k2 k3 a b d hd1]; rfl, rfl⟩
            · exact ⟨(a + 18446744073709551616 - b - d) % 18446744073709551616, if a < b + d then 1 else 0, by rw [hsub, run_carry_sub k1 k2 k3 a b d hd1]; rfl, rfl⟩
          obtain ⟨u, v, r1, r2⟩ := hval
          rw [r2]
          refine ⟨σ, w, .value (.tuple #[.int .u64 (u : Int), .int .u64 (v : Int)]), ?_, H, Ext.refl _ _ _, .inl ⟨_, rfl, [.int .u64 (u : Int), .int .u64 (v : Int)], rfl, rfl, rfl, trivial⟩⟩
          simp only [execOp, resolve, Sem.run_bind, Deferred.ofValue, hρf, Sem.run_pure, Result.andThen_ok, invoke, List.map_toArray, List.map_cons, List.map_nil, e1, e2, e3]
          simpa using r1
        · contradiction
      · contradiction
    · simp at h2
  | call f args => simp [step] at hs
  | callv x args => simp [step] at hs
  | stuck => simp [step] at hs
end
end Go.Abs
