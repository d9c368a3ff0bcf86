/- The abstract machine, part 4: which of its operations stands for which of Go's, and that it computes what Go's does. -/
import Derived.Test.YtdodhmidhcpnnaaX3
import Derived.Laws.Entries
import Derived.Laws.Build
import Derived.Laws.MakeOwn
import Derived.Laws.BytesString
import Derived.Laws.StructEq
set_option linter.unusedVariables false
set_option linter.unusedSimpArgs false
namespace Go.Abs

def scOk : SV → Value → Bool
  | .bool b, .bool b' => b == b'
  | .int k n, .int k' n' => k == k' && n == n'
  | .str l, .string s => s.data.toList == l
  | .nilp, .pointer none => true
  | .nils, .slice none 0 0 => true
  | _, _ => false

def scsOk : List SV → List Value → Bool
  | [], [] => true
  | x :: l, v :: m => scOk x v && scsOk l m
  | _, _ => false

def constOk : TV → Value → Bool
  | [], _ => true
  | [.sc x], v => scOk x v
  | [.agg l], .agg cs => scsOk l cs.toList
  | _, _ => false

def okO : Opd → Operand → Bool
  | .s n, .tmp t => n == t
  | .k x, .const v => constOk x v
  | .f i, .func j => i == j
  | _, _ => false

theorem scOk_R {σ : Nat → Addr} {h : Heap} {w : World} {x : SV} {v : Value} (hk : scOk x v = true) : SVR σ h w x v := by
  unfold scOk at hk
  split at hk
  · simp at hk; subst hk; rfl
  · simp at hk; obtain ⟨rfl, rfl⟩ := hk; rfl
  · rename_i l s
    have e : s.data.toList = l := by simpa using hk
    subst e
    show Value.string s = .string ⟨s.data.toList.toArray⟩
    rw [Array.toArray_toList]
  · rfl
  · rfl
  · simp at hk

theorem scsOk_R {σ : Nat → Addr} {h : Heap} {w : World} : ∀ {l : List SV} {m : List Value}, scsOk l m = true → All2 (SVR σ h w) l m
  | [], [], _ => trivial
  | x :: l, v :: m, hk => by
    simp only [scsOk, Bool.and_eq_true] at hk
    exact ⟨scOk_R hk.1, scsOk_R hk.2⟩
  | [], _ :: _, hk => by simp [scsOk] at hk
  | _ :: _, [], hk => by simp [scsOk] at hk

theorem constOk_R {σ : Nat → Addr} {h : Heap} {w : World} {x : TV} {v : Value} (hk : constOk x v = true) : TVR σ h w x v := by
  unfold constOk at hk
  split at hk
  · trivial
  · exact scOk_R hk
  · rename_i l cs
    exact ⟨cs.toList, by rw [Array.toArray_toList], scsOk_R hk⟩
  · simp at hk

/-- the temporaries bear the environment -/
def EnvR (σ : Nat → Addr) (h : Heap) (w : World) (e : Env) (ts : Array Value) : Prop := ∀ s, TVR σ h w (e.get s) (ts.getD s undef)

theorem okO_R {σ : Nat → Addr} {h : Heap} {w : World} {e : Env} {a : Act} (hE : EnvR σ h w e a.tmps) {x : Opd} {y : Operand} (hk : okO x y = true) : TVR σ h w (x.ev e) (a.eval y) := by
  unfold okO at hk
  split at hk
  · simp at hk; subst hk; exact hE _
  · exact constOk_R hk
  · simp at hk
    subst hk
    exact ⟨[], rfl, rfl, fun i p u hp => by simp at hp⟩
  · simp at hk

theorem EnvR.ext {base : Nat} {σ σ' : Nat → Addr} {h h' : Heap} {w w' : World} (H : HR base σ h w) (E : Ext σ h w σ' h' w') {e : Env} {ts : Array Value} (hE : EnvR σ h w e ts) : EnvR σ' h' w' e ts :=
  fun s => TVR.ext H E (hE s)

/-- what an operation's run has to give -/
def Good (P : Program) (base : Nat) (σ : Nat → Addr) (h : Heap) (w : World) (m : Sem Value) (tv : TV) (h' : Heap) : Prop :=
  ∃ σ' w' v, m.run P w = .ok v w' ∧ HR base σ' h' w' ∧ Ext σ h w σ' h' w' ∧ TVR σ' h' w' tv v

section
variable {P : Program} {base : Nat} {σ : Nat → Addr} {h h' : Heap} {w : World} {tv : TV}

theorem Good.same (H : HR base σ h w) {m : Sem Value} {v : Value} (hm : m.run P w = .ok v w) (hv : TVR σ h w tv v) : Good P base σ h w m tv h := ⟨σ, w, v, hm, H, Ext.refl _ _ _, hv⟩

theorem sc_int {k : IntKind} {n : Int} {v : Value} (hv : TVR σ h w [.sc (.int k n)] v) : v = .int k n := hv
theorem sc_bool {b : Bool} {v : Value} (hv : TVR σ h w [.sc (.bool b)] v) : v = .bool b := hv
theorem sc_str {l : List UInt8} {v : Value} (hv : TVR σ h w [.sc (.str l)] v) : v = .string ⟨l.toArray⟩ := hv

theorem freshB_spec {b e : Nat} (hf : freshB h b e = true) : ∃ B, h[b]? = some B ∧ e = B.c.length := by
  unfold freshB at hf
  split at hf
  · rename_i B hB; exact ⟨B, hB, Nat.eq_of_beq_eq_true hf⟩
  · simp at hf

theorem fresh_ptr {b o e : Nat} {v : Value} (hv : TVR σ h w [.sc (.ptr b o e)] v) (hf : freshB h b e = true) : v = .pointer (some ((σ b).add o)) := by
  obtain ⟨B, hB, he⟩ := freshB_spec hf
  obtain ⟨B', hB', _, _, hx⟩ := hv
  rw [hB] at hB'
  injection hB' with hB'
  subst hB'
  exact hx he

theorem fresh_sl {b o n c : Nat} {v : Value} (hv : TVR σ h w [.sc (.sl b o n c)] v) {B : Blk} (hB : h[b]? = some B) (hf : o + c = B.c.length) :
    ∃ ad cap, v = .slice (some ad) n cap ∧ n ≤ cap ∧ (ad = (σ b).add o ∨ cap = 0 ∧ 0 < o) ∧ rowFit w (σ b).block B.k o cap := by
  obtain ⟨B', hB', _, _, hx⟩ := hv
  rw [hB] at hB'
  injection hB' with hB'
  subst hB'
  exact hx hf

theorem add_add (a : Addr) (i j : Nat) : (a.add i).add j = a.add (i + j) := by
  unfold Addr.add
  by_cases hi : i = 0 <;> by_cases hj : j = 0 <;> simp [hi, hj, Nat.add_assoc]

theorem addrs_slice (b o j : Nat) : ((σ b).add o).add j = (σ b).add (o + j) := add_add _ _ _

theorem natOf_R {x : TV} {n : Nat} (hn : natOf x = some n) {v : Value} (hv : TVR σ h w x v) : ∃ k, v = .int k (n : Int) := by
  unfold natOf at hn
  split at hn
  · rename_i k m
    split at hn
    · rename_i hm
      injection hn with hn
      subst hn
      exact ⟨k, by rw [show v = .int k m from hv]; simp; omega⟩
    · simp at hn
  · simp at hn

-- ints, strings, bools
def toV : SV → Value
  | .int k n => .int k n
  | .bool b => .bool b
  | .str l => .string ⟨l.toArray⟩
  | _ => .nilFunc

theorem run_binInt {op : BinOp} {k : IntKind} {a b : Int} {r : SV} (hr : binInt op k a b = some r) (t : TypeId) : (binOp op t (.int k a) (.int k b)).run P w = .ok (toV r) w ∧ SVR σ h w r (toV r) := by
  cases op <;> simp only [binInt] at hr <;> first
    | contradiction
    | (split at hr
       · contradiction
       · rename_i hb
         injection hr with hr
         subst hr
         exact ⟨by simp [binOp, Op.intDiv, hb, toV], rfl⟩)
    | (injection hr with hr; subst hr; refine ⟨?_, rfl⟩; simp only [binOp, Op.intArith, Op.intBits, Op.intCmp, toV, bitop, Sem.run_pure, ne_eq, not_true_eq_false, if_false])

theorem strLess_eq : ∀ (a b : List UInt8), Op.bytesLess a b = strLess a b
  | _, [] => by simp [Op.bytesLess, strLess]
  | [], _ :: _ => by simp [Op.bytesLess, strLess]
  | a :: x, b :: y => by simp [Op.bytesLess, strLess, strLess_eq x y]

theorem toList_mk (l : List UInt8) : (⟨l.toArray⟩ : ByteArray).toList = l := by
  rw [ByteArray.toList_eq]
theorem size_mk (l : List UInt8) : (⟨l.toArray⟩ : ByteArray).size = l.length := by
  show l.toArray.size = l.length
  simp
theorem append_mk (a b : List UInt8) : (⟨a.toArray⟩ : ByteArray) ++ ⟨b.toArray⟩ = ⟨(a ++ b).toArray⟩ := by
  apply ByteArray.ext
  apply Array.ext'
  simp

theorem run_binStr {op : BinOp} {a b : List UInt8} {r : SV} (hr : binStr op a b = some r) (t : TypeId) : (binOp op t (.string ⟨a.toArray⟩) (.string ⟨b.toArray⟩)).run P w = .ok (toV r) w ∧ SVR σ h w r (toV r) := by
  cases op <;> simp only [binStr] at hr <;> first
    | contradiction
    | (split at hr
       · rename_i hb
         injection hr with hr
         subst hr
         refine ⟨?_, rfl⟩
         have hb' : ¬ (((a.length + b.length : Nat) : Int) > IntKind.i64.max) := by simp only [lim] at hb; simp [IntKind.max, IntKind.signed, IntKind.bits]; omega
         simp only [binOp, Op.stringOp, size_mk, append_mk, if_neg hb', Sem.run_pure, toV]
       · contradiction)
    | (injection hr with hr; subst hr; refine ⟨?_, rfl⟩; simp only [binOp, Op.stringOp, toList_mk, strLess_eq, Sem.run_pure, toV])

theorem eqGuard_sc (op : BinOp) (t : TypeId) (x y : Operand) {a b : Value} (ha : a.oneCell' = true) (hn : a ≠ .nilIface) : (eqGuard op t x y a b).run P w = .ok () w := by
  cases op <;> simp only [eqGuard] <;> first | rfl | (cases a <;> first | contradiction | rfl)

theorem SVR.not_nil {x : SV} {v : Value} (hv : SVR σ h w x v) (hf : ∀ b o e, x = .ptr b o e → freshB h b e = true) (hg : ∀ b o n c, x = .sl b o n c → freshB h b (o + c) = true) : v ≠ .nilIface := by
  cases x with
  | bool b => rw [show v = .bool b from hv]; simp
  | int k n => rw [show v = .int k n from hv]; simp
  | str l => rw [show v = .string ⟨l.toArray⟩ from hv]; simp
  | nilp => rw [show v = .pointer none from hv]; simp
  | nils => rw [show v = .slice none 0 0 from hv]; simp
  | ptr b o e => rw [fresh_ptr (w := w) hv (hf b o e rfl)]; simp
  | sl b o n c =>
    obtain ⟨B, hB, he⟩ := freshB_spec (hg b o n c rfl)
    obtain ⟨ad, cap, h1, _⟩ := fresh_sl (w := w) hv hB he
    rw [h1]; simp
  | fn f caps => obtain ⟨vs, h1, _⟩ := hv; rw [h1]; simp

theorem run_binOpA {op : BinOp} {a b r : SV} (hr : binOpA op a b = some r) {va vb : Value} (ha : SVR σ h w a va) (hb : SVR σ h w b vb) (t : TypeId) : (binOp op t va vb).run P w = .ok (toV r) w ∧ SVR σ h w r (toV r) := by
  unfold binOpA at hr
  split at hr
  · rename_i k x k' y
    rw [show va = .int k x from ha, show vb = .int k' y from hb]
    split at hr
    · split at hr
      · contradiction
      · rename_i hy
        injection hr with hr
        subst hr
        exact ⟨by simp [binOp, Op.shift, hy, toV, shAmt], rfl⟩
    · split at hr
      · contradiction
      · rename_i hy
        injection hr with hr
        subst hr
        exact ⟨by simp [binOp, Op.shift, hy, toV, shAmt], rfl⟩
    · rename_i h1 h2
      split at hr
      · rename_i hk
        subst hk
        exact run_binInt hr t
      · contradiction
  · rename_i x y
    rw [show va = .string ⟨x.toArray⟩ from ha, show vb = .string ⟨y.toArray⟩ from hb]
    exact run_binStr hr t
  · contradiction

theorem binOpA_plain {op : BinOp} {a b r : SV} (hr : binOpA op a b = some r) {va : Value} (ha : SVR σ h w a va) : va ≠ .nilIface := by
  unfold binOpA at hr
  split at hr
  · rename_i k x k' y; rw [show va = .int k x from ha]; simp
  · rename_i x y; rw [show va = .string ⟨x.toArray⟩ from ha]; simp
  · contradiction

theorem g_bin (H : HR base σ h w) {op : BinOp} {a b : SV} (hr : sc1 (binOpA op a b) h = some (tv, h')) {va vb : Value} (ha : SVR σ h w a va) (hb : SVR σ h w b vb) (t : TypeId) (x y : Operand) :
    Good P base σ h w (do eqGuard op t x y va vb; binOp op t va vb) tv h' := by
  unfold sc1 at hr
  split at hr
  · rename_i r hr'
    injection hr with hr
    injection hr with h1 h2
    subst h1 h2
    obtain ⟨hv, hx⟩ := run_binOpA (P := P) hr' ha hb t
    exact Good.same H (v := toV r) (by rw [Sem.run_bind, eqGuard_sc op t x y ha.one (binOpA_plain hr' ha)]; exact hv) hx
  · contradiction

theorem run_eqIn_bool (d : Nat) (t : TypeId) (a b : Bool) (ht : P.underlying t = some .bool) : (Op.equalIn (d + 1) t (.bool a) (.bool b)).run P w = .ok (a == b) w := by
  simp [Op.equalIn, run_underlying ht]
theorem run_eqIn_ptr (d : Nat) (t e : TypeId) (a b : Option Addr) (hn : a = none ∨ b = none) (ht : P.underlying t = some (.pointer e)) : (Op.equalIn (d + 1) t (.pointer a) (.pointer b)).run P w = .ok (a.isNone && b.isNone) w := by
  rcases hn with rfl | rfl
  · cases b <;> simp [Op.equalIn, run_underlying ht]
  · cases a <;> simp [Op.equalIn, run_underlying ht]
theorem run_eqIn_sl (d : Nat) (t e : TypeId) (a b : Option Addr) (n m c c' : Nat) (hn : a = none ∨ b = none) (ht : P.underlying t = some (.slice e)) : (Op.equalIn (d + 1) t (.slice a n c) (.slice b m c')).run P w = .ok (a.isNone && b.isNone) w := by
  rcases hn with rfl | rfl
  · cases b <;> simp [Op.equalIn, run_underlying ht]
  · cases a <;> simp [Op.equalIn, run_underlying ht]

theorem run_eql (neg : Bool) (t : TypeId) (va vb : Value) (r : Bool) (hb : binOp (if neg then .neq else .eql) t va vb = (do let x ← Op.equal t va vb; pure (.bool (if neg then !x else x)))) (hr : (Op.equalIn (9999 + 1) t va vb).run P w = .ok r w) :
    (binOp (if neg then .neq else .eql) t va vb).run P w = .ok (.bool (if neg then !r else r)) w := by
  have hr' : (Op.equal t va vb).run P w = .ok r w := hr
  rw [hb, Sem.run_bind, hr']
  rfl

theorem g_eqb (H : HR base σ h w) {neg a b : Bool} {t : TypeId} (ht : P.underlying t = some .bool) (x y : Operand) :
    Good P base σ h w (do eqGuard (if neg then .neq else .eql) t x y (.bool a) (.bool b); binOp (if neg then .neq else .eql) t (.bool a) (.bool b)) [.sc (.bool (if neg then a != b else a == b))] h := by
  refine Good.same H (v := .bool (if neg then a != b else a == b)) ?_ rfl
  rw [Sem.run_bind, eqGuard_sc _ t x y rfl (by simp)]
  simp only [Result.andThen_ok]
  rw [run_eql neg t _ _ (a == b) (by cases neg <;> rfl) (run_eqIn_bool 9999 t a b ht)]
  cases neg <;> simp [bne]

/-- a pointer type, or a slice type -/
def nilTy (P : Program) (slice : Bool) (t : TypeId) : Bool :=
  match slice, P.underlying t with
  | false, some (.pointer _) => true
  | true, some (.slice _) => true
  | _, _ => false

theorem isNilP_val {a : SV} {p : Bool} (hp : isNil h false a = some p) {v : Value} (hv : SVR σ h w a v) : ∃ ad : Option Addr, v = .pointer ad ∧ ad.isNone = p := by
  cases a <;> simp only [isNil] at hp <;> try contradiction
  · split at hp
    · rename_i hf
      injection hp with hp
      subst hp
      exact ⟨_, fresh_ptr (h := h) (w := w) hv hf, rfl⟩
    · contradiction
  · injection hp with hp
    subst hp
    exact ⟨none, hv, rfl⟩

theorem isNilS_val {a : SV} {p : Bool} (hp : isNil h true a = some p) {v : Value} (hv : SVR σ h w a v) : ∃ (ad : Option Addr) (n c : Nat), v = .slice ad n c ∧ ad.isNone = p := by
  cases a <;> simp only [isNil] at hp <;> try contradiction
  · split at hp
    · rename_i hf
      injection hp with hp
      subst hp
      obtain ⟨B, hB, he⟩ := freshB_spec hf
      obtain ⟨ad, cap, h1, _⟩ := fresh_sl (h := h) (w := w) hv hB he
      exact ⟨some ad, _, cap, h1, rfl⟩
    · contradiction
  · injection hp with hp
    subst hp
    exact ⟨none, 0, 0, hv, rfl⟩

theorem g_eqn (H : HR base σ h w) {sl neg : Bool} {a b : SV} {p q : Bool} (hp : isNil h sl a = some p) (hq : isNil h sl b = some q) (hpq : (p || q) = true) {va vb : Value} (ha : SVR σ h w a va) (hb : SVR σ h w b vb) {t : TypeId}
    (ht : nilTy P sl t = true) (x y : Operand) :
    Good P base σ h w (do eqGuard (if neg then .neq else .eql) t x y va vb; binOp (if neg then .neq else .eql) t va vb) [.sc (.bool (if neg then !(p && q) else p && q))] h := by
  refine Good.same H (v := .bool (if neg then !(p && q) else p && q)) ?_ rfl
  unfold nilTy at ht
  cases sl
  · obtain ⟨x1, rfl, rfl⟩ := isNilP_val hp ha
    obtain ⟨x2, rfl, rfl⟩ := isNilP_val hq hb
    rw [Sem.run_bind, eqGuard_sc _ t x y rfl (by simp)]
    simp only [Result.andThen_ok]
    cases hu : P.underlying t with
    | none => simp [hu] at ht
    | some d =>
      cases d <;> simp [hu] at ht
      exact run_eql neg t _ _ _ (by cases neg <;> rfl) (run_eqIn_ptr 9999 t _ x1 x2 (by simpa using hpq) hu)
  · obtain ⟨x1, n1, c1, rfl, rfl⟩ := isNilS_val hp ha
    obtain ⟨x2, n2, c2, rfl, rfl⟩ := isNilS_val hq hb
    rw [Sem.run_bind, eqGuard_sc _ t x y rfl (by simp)]
    simp only [Result.andThen_ok]
    cases hu : P.underlying t with
    | none => simp [hu] at ht
    | some d =>
      cases d <;> simp [hu] at ht
      exact run_eql neg t _ _ _ (by cases neg <;> rfl) (run_eqIn_sl 9999 t _ x1 x2 n1 n2 c1 c2 (by simpa using hpq) hu)

theorem g_un (H : HR base σ h w) {op : UnOp} {a : SV} (hr : sc1 (unOpA op a) h = some (tv, h')) {va : Value} (ha : SVR σ h w a va) : Good P base σ h w (Op.unary op va) tv h' := by
  unfold sc1 at hr
  split at hr
  · rename_i r hr'
    injection hr with hr
    injection hr with h1 h2
    subst h1 h2
    unfold unOpA at hr'
    split at hr'
    · rename_i k n
      rw [show va = .int k n from ha]
      split at hr'
      · injection hr' with hr'
        subst hr'
        exact Good.same H (v := .int k (k.wrap (0 - n))) (by simp [Op.unary, Op.intArith]) rfl
      · injection hr' with hr'
        subst hr'
        exact Good.same H (v := .int k (bitop .xor k (if k.signed then -1 else k.max) n)) (by simp [Op.unary, Op.intBits, bitop]) rfl
      · contradiction
    · rename_i b
      rw [show va = .bool b from ha]
      split at hr'
      · injection hr' with hr'
        subst hr'
        exact Good.same H (v := .bool (!b)) (by simp [Op.unary]) rfl
      · contradiction
    · contradiction
  · contradiction

theorem g_conv (H : HR base σ h w) {k k' : IntKind} {n : Int} {s d : TypeId} {ds : TypeDesc} (hs : P.underlying s = some ds) (hd : P.underlying d = some (.int k)) :
    Good P base σ h w (convert s d (.int k' n)) [.sc (.int k (k.wrap n))] h :=
  Good.same H (v := .int k (k.wrap n)) (by simp [convert, run_underlying hs, run_underlying hd, Conv.intToInt]) rfl

theorem g_same (H : HR base σ h w) {l : List UInt8} {s d : TypeId} {ds : TypeDesc} (hs : P.underlying s = some ds) (hd : P.underlying d = some .string) :
    Good P base σ h w (convert s d (.string ⟨l.toArray⟩)) [.sc (.str l)] h :=
  Good.same H (v := .string ⟨l.toArray⟩) (by simp [convert, run_underlying hs, run_underlying hd]) rfl
end
end Go.Abs
