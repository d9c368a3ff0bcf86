/- Several chapters in one text. -/
import Derived.Test.YtoghoddofokekaaC2
import Derived.Test.YtoghoddofokekaaC1
import Derived.Test.YtoghoddofokekaaC3
import Derived.Test.YtoghoddofokekaaC4
section
set_option linter.unusedVariables false
set_option linter.unusedSimpArgs false
set_option maxRecDepth 100000
namespace Go.Proofs.Ytoghoddofokekaa
open Go.Abs

/-- a command's parts -/
structure Cm where
  k : Int
  s : Nat
  q : Nat
  a : Nat
  b : Nat
  hi : Int
  lo : Nat
  sc : Int
  x : List UInt8
  y : List UInt8
def Cm.cells (c : Cm) : List SV := [.int .i64 c.k, .int .u64 c.s, .int .u64 c.q, .int .u64 c.a, .int .u64 c.b, .int .i64 c.hi, .int .u64 c.lo, .int .i64 c.sc, .str c.x, .str c.y]
def Cm.zero : Cm := ⟨0, 0, 0, 0, 0, 0, 0, 0, [], []⟩

/-- the fields of a kind -/
def mask (k : Int) : Nat :=
  if k = 1 then 1 else if k = 2 then 39 else if k = 3 then 35 else if k = 4 then 23 else if k = 5 then 23 else if k = 6 then 31 else if k = 7 then 115 else if k = 8 then 31 else if k = 9 then 7 else if k = 10 then 35 else if k = 11 then 99 else 0
def fl (k : Int) (j : Nat) : Bool := (mask k).testBit j
def pw : Nat → Int
  | 0 => 1
  | 1 => 2
  | 2 => 4
  | 3 => 8
  | 4 => 16
  | 5 => 32
  | 6 => 64
  | _ => 128

theorem kinds (k : Int) : k = 1 ∨ k = 2 ∨ k = 3 ∨ k = 4 ∨ k = 5 ∨ k = 6 ∨ k = 7 ∨ k = 8 ∨ k = 9 ∨ k = 10 ∨ k = 11 ∨ (k < 1 ∨ 11 < k) := by omega

theorem mask_none {k : Int} (h : k < 1 ∨ 11 < k) : mask k = 0 := by
  unfold mask
  repeat rw [if_neg (by omega)]

theorem spec82 (h : Heap) (k : Int) : call 82 [[.sc (.int .i64 k)]] h = some ([.sc (.int .i64 (mask k))], h) := by
  refine callX rfl (by rfl : F 82 = some M.a82) (fun R RO RD RT E => ?_)
  rcases kinds k with rfl | rfl | rfl | rfl | rfl | rfl | rfl | rfl | rfl | rfl | rfl | hk
  · simp [M.a82, E.eqs, mask] <;> rfl
  · simp [M.a82, E.eqs, mask] <;> rfl
  · simp [M.a82, E.eqs, mask] <;> rfl
  · simp [M.a82, E.eqs, mask] <;> rfl
  · simp [M.a82, E.eqs, mask] <;> rfl
  · simp [M.a82, E.eqs, mask] <;> rfl
  · simp [M.a82, E.eqs, mask] <;> rfl
  · simp [M.a82, E.eqs, mask] <;> rfl
  · simp [M.a82, E.eqs, mask] <;> rfl
  · simp [M.a82, E.eqs, mask] <;> rfl
  · simp [M.a82, E.eqs, mask] <;> rfl
  · rw [mask_none hk]
    have e1 : ¬ k = 1 := by omega
    have e2 : ¬ k = 2 := by omega
    have e3 : ¬ k = 3 := by omega
    have e4 : ¬ k = 4 := by omega
    have e5 : ¬ k = 5 := by omega
    have e6 : ¬ k = 6 := by omega
    have e7 : ¬ k = 7 := by omega
    have e8 : ¬ k = 8 := by omega
    have e9 : ¬ k = 9 := by omega
    have e10 : ¬ k = 10 := by omega
    have e11 : ¬ k = 11 := by omega
    simp [M.a82, E.eqs, e1, e2, e3, e4, e5, e6, e7, e8, e9, e10, e11]

/-- the mask's bits, as the program asks for them -/
theorem mask_bit (k : Int) (j : Nat) (hj : j < 7) : bitop .and .i64 (mask k : Nat) (pw j) = if fl k j then pw j else 0 := by
  have hz : (k < 1 ∨ 11 < k) → bitop .and .i64 (mask k : Nat) (pw j) = if fl k j then pw j else 0 := fun hk => by
    unfold fl
    rw [mask_none hk]
    rcases (by omega : j = 0 ∨ j = 1 ∨ j = 2 ∨ j = 3 ∨ j = 4 ∨ j = 5 ∨ j = 6) with rfl | rfl | rfl | rfl | rfl | rfl | rfl <;> rfl
  rcases kinds k with rfl | rfl | rfl | rfl | rfl | rfl | rfl | rfl | rfl | rfl | rfl | hk
  case inr.inr.inr.inr.inr.inr.inr.inr.inr.inr.inr => exact hz hk
  all_goals rcases (by omega : j = 0 ∨ j = 1 ∨ j = 2 ∨ j = 3 ∨ j = 4 ∨ j = 5 ∨ j = 6) with rfl | rfl | rfl | rfl | rfl | rfl | rfl <;> rfl

def numOk (n : Nat) : Bool := decide (1 ≤ n) && decide (n ≤ 72057594037927935)
theorem spec117 (h : Heap) (n : Nat) : call 117 [[.sc (.int .u64 n)]] h = some ([.sc (.bool (numOk n))], h) := by
  refine callX rfl (by rfl : F 117 = some M.a117) (fun R RO RD RT E => ?_)
  unfold numOk
  have e1 : ((n : Int) ≤ 72057594037927935) ↔ n ≤ 72057594037927935 := by omega
  by_cases c1 : 1 ≤ n
  · have c1' : (1 : Int) ≤ n := by omega
    simp [M.a117, E.eqs, c1, c1', e1]
  · have c1' : ¬ (1 : Int) ≤ n := by omega
    simp [M.a117, E.eqs, c1, c1']

def scOk (s : Int) : Bool := decide (0 ≤ s) && decide (s ≤ 18)
def fitsB (c : Cm) : Nat → Bool
  | 0 => numOk c.s
  | 1 => numOk c.q
  | 4 => scOk c.sc
  | 5 => nameB c.x
  | 6 => nameB c.y
  | _ => true
def bareB (c : Cm) : Nat → Bool
  | 0 => decide (c.s = 0)
  | 1 => decide (c.q = 0)
  | 2 => decide (c.a = 0)
  | 3 => decide (c.b = 0)
  | 4 => decide (c.hi = 0 ∧ c.lo = 0 ∧ c.sc = 0)
  | 5 => c.x.isEmpty
  | _ => c.y.isEmpty

theorem spec88 (h : Heap) (c : Cm) (hx : c.x.length < 9223372036854775808) (hy : c.y.length < 9223372036854775808) {j : Nat} (hj : j < 7) : call 88 [[.agg c.cells], [.sc (.int .i64 (pw j))]] h = some ([.sc (.bool (fitsB c j))], h) := by
  have n1 := fun h => spec117 h c.s
  have n2 := fun h => spec117 h c.q
  have n3 := fun h => spec69 h (.int .i64 c.hi) (.int .u64 c.lo) (.int .i64 c.sc) c.sc
  have n4 := fun h => spec20 h hx
  have n5 := fun h => spec20 h hy
  refine callX rfl (by rfl : F 88 = some M.a88) (fun R RO RD RT E => ?_)
  rcases (by omega : j = 0 ∨ j = 1 ∨ j = 2 ∨ j = 3 ∨ j = 4 ∨ j = 5 ∨ j = 6) with rfl | rfl | rfl | rfl | rfl | rfl | rfl <;>
    simp [M.a88, E.eqs, fldA, freshB, loadA, trim_pure, pureT, pureV, pureS, Cm.cells, pw, fitsB, scOk, n1, n2, n3, n4, n5]

theorem spec89 (h : Heap) (c : Cm) {j : Nat} (hj : j < 7) : call 89 [[.agg c.cells], [.sc (.int .i64 (pw j))]] h = some ([.sc (.bool (bareB c j))], h) := by
  refine callX rfl (by rfl : F 89 = some M.a89) (fun R RO RD RT E => ?_)
  rcases (by omega : j = 0 ∨ j = 1 ∨ j = 2 ∨ j = 3 ∨ j = 4 ∨ j = 5 ∨ j = 6) with rfl | rfl | rfl | rfl | rfl | rfl | rfl <;>
    simp [M.a89, E.eqs, fldA, freshB, loadA, trim_pure, pureT, pureV, pureS, Cm.cells, pw, bareB]
end Go.Proofs.Ytoghoddofokekaa
end

section
set_option linter.unusedVariables false
set_option linter.unusedSimpArgs false
set_option maxRecDepth 100000
namespace Go.Proofs.Ytoghoddofokekaa
open Go.Abs

def fldOk (c : Cm) (j : Nat) : Bool := if fl c.k j then fitsB c j else bareB c j
def fromOk (c : Cm) : Nat → Nat → Bool
  | 0, _ => true
  | m + 1, j => fldOk c j && fromOk c m (j + 1)
/-- may it be? -/
def rightC (c : Cm) : Bool := decide (mask c.k ≠ 0) && fromOk c 7 0

theorem pw_ne {j : Nat} (hj : j < 7) : ¬ pw j = 0 := by
  rcases (by omega : j = 0 ∨ j = 1 ∨ j = 2 ∨ j = 3 ∨ j = 4 ∨ j = 5 ∨ j = 6) with rfl | rfl | rfl | rfl | rfl | rfl | rfl <;> decide
theorem pw_lt {j : Nat} (hj : j < 7) : pw j < 128 := by
  rcases (by omega : j = 0 ∨ j = 1 ∨ j = 2 ∨ j = 3 ∨ j = 4 ∨ j = 5 ∨ j = 6) with rfl | rfl | rfl | rfl | rfl | rfl | rfl <;> decide

theorem right_loop {h : Heap} {c : Cm} {B : Nat} (hx : c.x.length < 9223372036854775808) (hy : c.y.length < 9223372036854775808) (hB : h[B]? = some ⟨.var, c.cells⟩) : ∀ (m j : Nat) (e : Env), j + m = 7 → e.get 1 = [.sc (.ptr B 0 10)] → e.get 3 = [.sc (.int .i64 (mask c.k))] → e.get 4 = [.sc (.int .i64 (pw j))] →
    ∃ e', loopE F O (.loop [1, 3, 4] M.b37_0) e h = some (if fromOk c m j then (.exit 0, e', h) else (.ret, [(2, [.sc (.bool false)])], h))
  | 0, j, e, hj, e1, e3, e4 => by
    have : j = 7 := by omega
    subst this
    refine ⟨[(1, [.sc (.ptr B 0 10)]), (3, [.sc (.int .i64 (mask c.k))]), (4, [.sc (.int .i64 128)]), (11, [.sc (.bool false)])], exitM fun R RO RD RT E => ?_⟩
    have p7 : pw 7 = 128 := rfl
    rw [p7] at e4
    simp [M.b37_0, E.eqs, e1, e3, e4, show fromOk c 0 7 = true from rfl]
  | m + 1, j, e, hj, e1, e3, e4 => by
    have hlt : j < 7 := by omega
    obtain ⟨e', ih⟩ := right_loop (h := h) (c := c) hx hy hB m (j + 1) [(1, [.sc (.ptr B 0 10)]), (3, [.sc (.int .i64 (mask c.k))]), (4, [.sc (.int .i64 (pw (j + 1)))])] (by omega) rfl rfl rfl
    have q1 := fun h => spec88 h c hx hy hlt
    have q2 := fun h => spec89 h c hlt
    have mb := mask_bit c.k j hlt
    have p1 := pw_ne hlt
    have p2 := pw_lt hlt
    have p3 : IntKind.i64.wrap (pw j * 2 ^ shAmt .i64 1) = pw (j + 1) := by
      clear ih q1 q2 mb e4
      rcases (by omega : j = 0 ∨ j = 1 ∨ j = 2 ∨ j = 3 ∨ j = 4 ∨ j = 5 ∨ j = 6) with rfl | rfl | rfl | rfl | rfl | rfl | rfl <;> rfl
    generalize pw (j + 1) = pn at *
    generalize pw j = p at *
    have hlen : c.cells.length = 10 := rfl
    have ht : c.cells.take 10 = c.cells := rfl
    unfold fromOk fldOk
    generalize c.cells = cs at *
    cases hf : fl c.k j
    · rw [hf] at mb
      simp only [Bool.false_eq_true, if_false] at mb ⊢
      cases hb : bareB c j
      · rw [hb] at q2
        refine ⟨[], retM fun R RO RD RT E => ?_⟩
        simp [M.b37_0, E.eqs, e1, e3, e4, p1, p2, mb, q1, q2, loadA, hB, hlen, ht]
      · rw [hb] at q2
        rw [Bool.true_and]
        refine ⟨e', stepM (fun R RO RD RT E => ?_) ih⟩
        clear ih
        simp [M.b37_0, E.eqs, e1, e3, e4, p1, p2, p3, mb, q1, q2, loadA, hB, hlen, ht]
    · rw [hf] at mb
      simp only [if_true] at mb ⊢
      cases hb : fitsB c j
      · rw [hb] at q1
        refine ⟨[], retM fun R RO RD RT E => ?_⟩
        simp [M.b37_0, E.eqs, e1, e3, e4, p1, p2, mb, q1, q2, loadA, hB, hlen, ht]
      · rw [hb] at q1
        rw [Bool.true_and]
        refine ⟨e', stepM (fun R RO RD RT E => ?_) ih⟩
        clear ih
        simp [M.b37_0, E.eqs, e1, e3, e4, p1, p2, p3, mb, q1, q2, loadA, hB, hlen, ht]

theorem spec37 (h : Heap) (c : Cm) (hx : c.x.length < 9223372036854775808) (hy : c.y.length < 9223372036854775808) : call 37 [[.agg c.cells]] h = some ([.sc (.bool (rightC c))], h) := by
  have hB : (h ++ [⟨.var, c.cells⟩])[h.length]? = some (⟨.var, c.cells⟩ : Blk) := by simp
  obtain ⟨e', lo⟩ := right_loop (h := h ++ [⟨.var, c.cells⟩]) hx hy hB 7 0 [(1, [.sc (.ptr h.length 0 10)]), (3, [.sc (.int .i64 (mask c.k))]), (4, [.sc (.int .i64 (pw 0))])] (by omega) rfl rfl rfl
  have lo := loop_run lo
  have q := fun h => spec82 h c.k
  refine callX rfl (by rfl : F 37 = some M.a37) (fun R RO RD RT E => ?_)
  have lo := E.run lo
  unfold rightC
  have hlen : c.cells.length = 10 := rfl
  have ht : c.cells.take 10 = c.cells := rfl
  have hc0 : c.cells[0]? = some (.int .i64 c.k) := rfl
  have hc0' : ∀ hh, c.cells[0]'hh = .int .i64 c.k := fun _ => rfl
  have hpw : pw 0 = 1 := rfl
  rw [hpw] at lo
  by_cases hm : mask c.k = 0
  · simp [M.a37, E.eqs, q, hm, fldA, freshB, loadA, trim_pure, pureT, pureV, pureS, hlen, ht, hc0, hc0']
  · cases hf : fromOk c 7 0
    · rw [hf] at lo
      simp only [Bool.false_eq_true, if_false] at lo
      generalize c.cells = cs at *
      simp [M.a37, E.eqs, q, hm, lo, fldA, freshB, loadA, trim_pure, pureT, pureV, pureS, hlen, ht, hc0, hc0']
    · rw [hf] at lo
      simp only [if_true] at lo
      generalize c.cells = cs at *
      simp [M.a37, E.eqs, q, hm, lo, fldA, freshB, loadA, trim_pure, pureT, pureV, pureS, hlen, ht, hc0, hc0']
end Go.Proofs.Ytoghoddofokekaa
end

section
set_option linter.unusedVariables false
set_option linter.unusedSimpArgs false
set_option maxRecDepth 100000
namespace Go.Proofs.Ytoghoddofokekaa
open Go.Abs

def ofT (k : Int) : List UInt8 :=
  if k = 1 then [115, 101, 115, 115, 105, 111, 110]
  else if k = 2 then [115, 101, 115, 115, 105, 111, 110, 32, 115, 101, 113, 32, 97, 32, 120]
  else if k = 3 then [115, 101, 115, 115, 105, 111, 110, 32, 115, 101, 113, 32, 120]
  else if k = 4 then [115, 101, 115, 115, 105, 111, 110, 32, 115, 101, 113, 32, 97, 32, 97, 109, 111, 117, 110, 116]
  else if k = 5 then [115, 101, 115, 115, 105, 111, 110, 32, 115, 101, 113, 32, 97, 32, 97, 109, 111, 117, 110, 116]
  else if k = 6 then [115, 101, 115, 115, 105, 111, 110, 32, 115, 101, 113, 32, 97, 32, 98, 32, 97, 109, 111, 117, 110, 116]
  else if k = 7 then [115, 101, 115, 115, 105, 111, 110, 32, 115, 101, 113, 32, 97, 109, 111, 117, 110, 116, 32, 120, 32, 121]
  else if k = 8 then [115, 101, 115, 115, 105, 111, 110, 32, 115, 101, 113, 32, 97, 32, 98, 32, 97, 109, 111, 117, 110, 116]
  else if k = 9 then [115, 101, 115, 115, 105, 111, 110, 32, 115, 101, 113, 32, 97]
  else if k = 10 then [115, 101, 115, 115, 105, 111, 110, 32, 115, 101, 113, 32, 120]
  else if k = 11 then [115, 101, 115, 115, 105, 111, 110, 32, 115, 101, 113, 32, 120, 32, 121]
  else []
abbrev w_seq : List UInt8 := [115, 101, 113]
abbrev w_a : List UInt8 := [97]
abbrev w_b : List UInt8 := [98]
abbrev w_amount : List UInt8 := [97, 109, 111, 117, 110, 116]
abbrev w_x : List UInt8 := [120]
abbrev w_y : List UInt8 := [121]

theorem ofT_none {k : Int} (h : k < 1 ∨ 11 < k) : ofT k = [] := by
  unfold ofT
  repeat rw [if_neg (by omega)]
theorem ofT_len (k : Int) : (ofT k).length ≤ 40 := by
  rcases kinds k with rfl | rfl | rfl | rfl | rfl | rfl | rfl | rfl | rfl | rfl | rfl | hk
  case inr.inr.inr.inr.inr.inr.inr.inr.inr.inr.inr => rw [ofT_none hk]; decide
  all_goals decide

/-- is a word among words? -/
def hasF (s w : List UInt8) : Nat → Nat → Nat → Bool
  | 0, _, _ => false
  | m + 1, i, f => if s[i]? = none ∨ s[i]? = some 32 then (if (s.drop f).take (i - f) = w then true else hasF s w m (i + 1) (i + 1)) else hasF s w m (i + 1) f
def hasL (s w : List UInt8) : Bool := hasF s w (s.length + 1) 0 0

theorem has_loop {s w : List UInt8} {h : Heap} (hs : s.length < 1000) : ∀ (m i f : Nat) (e : Env), i + m = s.length + 1 → f ≤ i → e.get 0 = [.sc (.str s)] → e.get 1 = [.sc (.str w)] → e.get 5 = [.sc (.int .i64 f)] → e.get 6 = [.sc (.int .i64 i)] →
    ∃ e', loopE F O (.loop [0, 1, 5, 6] M.b56_0) e h = some (if hasF s w m i f then (.ret, [(4, [.sc (.bool true)])], h) else (.exit 0, e', h))
  | 0, i, f, e, hm, hf, e0, e1, e5, e6 => by
    have c1 : ¬ ((i : Int) ≤ s.length) := by omega
    refine ⟨[(0, [.sc (.str s)]), (1, [.sc (.str w)]), (5, [.sc (.int .i64 f)]), (6, [.sc (.int .i64 i)]), (10, [.sc (.bool false)])], exitM fun R RO RD RT E => ?_⟩
    simp [M.b56_0, E.eqs, e0, e1, e5, e6, c1, show hasF s w 0 i f = false from rfl]
  | m + 1, i, f, e, hm, hf, e0, e1, e5, e6 => by
    have c1 : (i : Int) ≤ s.length := by omega
    have w1 : IntKind.i64.wrap ((i : Int) + 1) = (i : Int) + 1 := wi64 (by omega) (by omega)
    obtain ⟨ea, iha⟩ := has_loop (s := s) (w := w) (h := h) hs m (i + 1) (i + 1) [(0, [.sc (.str s)]), (1, [.sc (.str w)]), (5, [.sc (.int .i64 ((i + 1 : Nat) : Int))]), (6, [.sc (.int .i64 ((i + 1 : Nat) : Int))])] (by omega) (by omega) rfl rfl rfl rfl
    obtain ⟨eb, ihb⟩ := has_loop (s := s) (w := w) (h := h) hs m (i + 1) f [(0, [.sc (.str s)]), (1, [.sc (.str w)]), (5, [.sc (.int .i64 f)]), (6, [.sc (.int .i64 ((i + 1 : Nat) : Int))])] (by omega) (by omega) rfl rfl rfl rfl
    have c2 : (f : Int) ≤ i := by omega
    unfold hasF
    by_cases hi : i = s.length
    · have hn : s[i]? = none := by rw [hi]; simp
      rw [if_pos (.inl hn)]
      subst hi
      have c3 : f ≤ s.length := hf
      by_cases hw : (s.drop f).take (s.length - f) = w
      · rw [if_pos hw]
        simp only [if_true]
        refine ⟨[], retM fun R RO RD RT E => ?_⟩
        clear iha ihb
        simp [M.b56_0, E.eqs, e0, e1, e5, e6, c1, c2, c3, hw]
      · rw [if_neg hw]
        refine ⟨ea, stepM (fun R RO RD RT E => ?_) iha⟩
        clear iha ihb
        simp [M.b56_0, E.eqs, e0, e1, e5, e6, c1, c2, c3, hw, w1]
    · have hlt : i < s.length := by omega
      obtain ⟨b, hb⟩ : ∃ b, s[i]? = some b := ⟨_, List.getElem?_eq_getElem hlt⟩
      have c3 : ¬ (i : Int) = s.length := by omega
      have c5 : i ≤ s.length := by omega
      by_cases hq : b = 32
      · rw [if_pos (.inr (by rw [hb, hq]))]
        subst hq
        by_cases hw : (s.drop f).take (i - f) = w
        · rw [if_pos hw]
          simp only [if_true]
          refine ⟨[], retM fun R RO RD RT E => ?_⟩
          clear iha ihb
          simp [M.b56_0, E.eqs, e0, e1, e5, e6, c1, c2, c3, c5, hf, hw, hb]
        · rw [if_neg hw]
          refine ⟨ea, stepM (fun R RO RD RT E => ?_) iha⟩
          clear iha ihb
          simp [M.b56_0, E.eqs, e0, e1, e5, e6, c1, c2, c3, c5, hf, hw, w1, hb]
      · rw [if_neg (by rw [hb]; simp [hq])]
        have c4 : ¬ (b.toNat : Int) = 32 := by
          intro hh
          exact hq (UInt8.toNat.inj (by simpa using (by omega : b.toNat = 32)))
        refine ⟨eb, stepM (fun R RO RD RT E => ?_) ihb⟩
        clear iha ihb
        simp [M.b56_0, E.eqs, e0, e1, e5, e6, c1, c2, c3, c4, w1, hb]

theorem spec56 (h : Heap) {s w : List UInt8} (hs : s.length < 1000) : call 56 [[.sc (.str s)], [.sc (.str w)]] h = some ([.sc (.bool (hasL s w))], h) := by
  obtain ⟨e', lo⟩ := has_loop (w := w) (h := h) hs (s.length + 1) 0 0 [(0, [.sc (.str s)]), (1, [.sc (.str w)]), (5, [.sc (.int .i64 0)]), (6, [.sc (.int .i64 0)])] (by omega) (by omega) rfl rfl rfl rfl
  have lo := loop_run lo
  refine callX rfl (by rfl : F 56 = some M.a56) (fun R RO RD RT E => ?_)
  have lo := E.run lo
  unfold hasL
  cases hF : hasF s w (s.length + 1) 0 0
  · rw [hF] at lo
    simp only [Bool.false_eq_true, if_false] at lo
    simp [M.a56, E.eqs, lo]
  · rw [hF] at lo
    simp only [if_true] at lo
    simp [M.a56, E.eqs, lo]

theorem spec84 (h : Heap) (k : Int) : call 84 [[.sc (.int .i64 k)]] h = some ([.sc (.str (ofT k))], h) := by
  refine callX rfl (by rfl : F 84 = some M.a84) (fun R RO RD RT E => ?_)
  rcases kinds k with rfl | rfl | rfl | rfl | rfl | rfl | rfl | rfl | rfl | rfl | rfl | hk
  case inr.inr.inr.inr.inr.inr.inr.inr.inr.inr.inr =>
    rw [ofT_none hk]
    by_cases h1 : k < 1
    · simp [M.a84, E.eqs, h1, fldA, freshB, loadA, storeA, trim_pure, pureT, pureV, pureS]
    · have h2 : 11 < k := by omega
      simp [M.a84, E.eqs, h1, h2, fldA, freshB, loadA, storeA, trim_pure, pureT, pureV, pureS]
  all_goals simp [M.a84, E.eqs, fldA, freshB, loadA, storeA, trim_pure, pureT, pureV, pureS, ofT]

theorem has_seq (k : Int) : hasL (ofT k) w_seq = fl k 1 := by
  rcases kinds k with rfl | rfl | rfl | rfl | rfl | rfl | rfl | rfl | rfl | rfl | rfl | hk
  case inr.inr.inr.inr.inr.inr.inr.inr.inr.inr.inr => unfold fl; rw [ofT_none hk, mask_none hk]; decide
  all_goals decide
theorem has_a (k : Int) : hasL (ofT k) w_a = fl k 2 := by
  rcases kinds k with rfl | rfl | rfl | rfl | rfl | rfl | rfl | rfl | rfl | rfl | rfl | hk
  case inr.inr.inr.inr.inr.inr.inr.inr.inr.inr.inr => unfold fl; rw [ofT_none hk, mask_none hk]; decide
  all_goals decide
theorem has_b (k : Int) : hasL (ofT k) w_b = fl k 3 := by
  rcases kinds k with rfl | rfl | rfl | rfl | rfl | rfl | rfl | rfl | rfl | rfl | rfl | hk
  case inr.inr.inr.inr.inr.inr.inr.inr.inr.inr.inr => unfold fl; rw [ofT_none hk, mask_none hk]; decide
  all_goals decide
theorem has_amount (k : Int) : hasL (ofT k) w_amount = fl k 4 := by
  rcases kinds k with rfl | rfl | rfl | rfl | rfl | rfl | rfl | rfl | rfl | rfl | rfl | hk
  case inr.inr.inr.inr.inr.inr.inr.inr.inr.inr.inr => unfold fl; rw [ofT_none hk, mask_none hk]; decide
  all_goals decide
theorem has_x (k : Int) : hasL (ofT k) w_x = fl k 5 := by
  rcases kinds k with rfl | rfl | rfl | rfl | rfl | rfl | rfl | rfl | rfl | rfl | rfl | hk
  case inr.inr.inr.inr.inr.inr.inr.inr.inr.inr.inr => unfold fl; rw [ofT_none hk, mask_none hk]; decide
  all_goals decide
theorem has_y (k : Int) : hasL (ofT k) w_y = fl k 6 := by
  rcases kinds k with rfl | rfl | rfl | rfl | rfl | rfl | rfl | rfl | rfl | rfl | rfl | hk
  case inr.inr.inr.inr.inr.inr.inr.inr.inr.inr.inr => unfold fl; rw [ofT_none hk, mask_none hk]; decide
  all_goals decide
end Go.Proofs.Ytoghoddofokekaa
end

section
set_option linter.unusedVariables false
set_option linter.unusedSimpArgs false
set_option maxRecDepth 100000
namespace Go.Proofs.Ytoghoddofokekaa
open Go.Abs

def numR (t : Bool) (n : Nat) : Bool := if t then numOk n else decide (n = 0)
def nameR (t : Bool) (l : List UInt8) : Bool := if t then nameB l else l.isEmpty
theorem spec55 (h : Heap) (t : Bool) (n : Nat) : call 55 [[.sc (.bool t)], [.sc (.int .u64 n)]] h = some ([.sc (.bool (numR t n))], h) := by
  refine callX rfl (by rfl : F 55 = some M.a55) (fun R RO RD RT E => ?_)
  unfold numR numOk
  have e1 : ((n : Int) ≤ 72057594037927935) ↔ n ≤ 72057594037927935 := by omega
  cases t
  · simp [M.a55, E.eqs]
  · by_cases c1 : 1 ≤ n
    · have c1' : (1 : Int) ≤ n := by omega
      simp [M.a55, E.eqs, c1, c1', e1]
    · have c1' : ¬ (1 : Int) ≤ n := by omega
      simp [M.a55, E.eqs, c1, c1']
theorem spec115 (h : Heap) (t : Bool) (l : List UInt8) : call 115 [[.sc (.bool t)], [.sc (.str l)]] h = some ([.sc (.bool (nameR t l))], h) := by
  have q := fun h => spec21 h (l := l)
  refine callX rfl (by rfl : F 115 = some M.a115) (fun R RO RD RT E => ?_)
  unfold nameR
  cases t
  · simp [M.a115, E.eqs]
  · simp [M.a115, E.eqs, q]

def amtR (c : Cm) : Bool := if fl c.k 4 then scOk c.sc else decide (c.hi = 0 ∧ c.lo = 0 ∧ c.sc = 0)
/-- the document's order of the questions -/
def rightD (c : Cm) : Bool := !(ofT c.k).isEmpty && (numR true c.s && (numR (fl c.k 1) c.q && (nameR (fl c.k 5) c.x && (nameR (fl c.k 6) c.y && (((fl c.k 2 || decide (c.a = 0)) && (fl c.k 3 || decide (c.b = 0))) && amtR c)))))

theorem of_mask (k : Int) : (ofT k).isEmpty = decide (mask k = 0) := by
  rcases kinds k with rfl | rfl | rfl | rfl | rfl | rfl | rfl | rfl | rfl | rfl | rfl | hk
  case inr.inr.inr.inr.inr.inr.inr.inr.inr.inr.inr => rw [ofT_none hk, mask_none hk]; decide
  all_goals decide
theorem fl0 {k : Int} (h : mask k ≠ 0) : fl k 0 = true := by
  rcases kinds k with rfl | rfl | rfl | rfl | rfl | rfl | rfl | rfl | rfl | rfl | rfl | hk
  case inr.inr.inr.inr.inr.inr.inr.inr.inr.inr.inr => exact absurd (mask_none hk) h
  all_goals decide

theorem right_same (c : Cm) : rightD c = rightC c := by
  unfold rightD rightC
  rw [of_mask]
  by_cases hm : mask c.k = 0
  · simp [hm]
  · have h0 := fl0 hm
    simp only [fromOk, fldOk, h0, if_true, fitsB, bareB, numR, nameR, amtR]
    generalize fl c.k 1 = f1
    generalize fl c.k 2 = f2
    generalize fl c.k 3 = f3
    generalize fl c.k 4 = f4
    generalize fl c.k 5 = f5
    generalize fl c.k 6 = f6
    generalize numOk c.s = z1
    generalize numOk c.q = z2
    generalize nameB c.x = z3
    generalize nameB c.y = z4
    generalize scOk c.sc = z5
    generalize c.x.isEmpty = z6
    generalize c.y.isEmpty = z7
    generalize decide (c.q = 0) = z8
    generalize decide (c.a = 0) = z9
    generalize decide (c.b = 0) = z10
    generalize decide (c.hi = 0 ∧ c.lo = 0 ∧ c.sc = 0) = z11
    simp only [hm, decide_false, Bool.not_false, ne_eq, not_false_eq_true, decide_true, Bool.true_and]
    cases z1 <;> cases f1 <;> cases f2 <;> cases f3 <;> cases f4 <;> cases f5 <;> cases f6 <;> simp <;> ac_rfl
end Go.Proofs.Ytoghoddofokekaa
end

section
set_option linter.unusedVariables false
set_option linter.unusedSimpArgs false
set_option maxRecDepth 100000
namespace Go.Proofs.Ytoghoddofokekaa
open Go.Abs

set_option maxHeartbeats 4000000 in
theorem spec86 (h : Heap) (c : Cm) : call 86 [[.agg c.cells]] h = some ([.sc (.bool (rightC c))], h) := by
  rw [← right_same]
  obtain ⟨hb, hhb⟩ : ∃ hb : Heap, hb = h ++ [⟨.var, c.cells⟩] := ⟨_, rfl⟩
  have bb : hb[h.length]? = some (⟨.var, c.cells⟩ : Blk) := by rw [hhb]; simp
  have tr : ∀ b, trim h hb [.sc (.bool b)] = h := fun b => by rw [hhb]; exact trim_pure rfl
  have hl : (ofT c.k).length < 1000 := by have := ofT_len c.k; omega
  have qo := spec84 hb c.k
  have q1 := spec56 hb (w := w_seq) hl
  have q2 := spec56 hb (w := w_a) hl
  have q3 := spec56 hb (w := w_b) hl
  have q4 := spec56 hb (w := w_amount) hl
  have q5 := spec56 hb (w := w_x) hl
  have q6 := spec56 hb (w := w_y) hl
  have n0 := spec55 hb true c.s
  have n1 := spec55 hb (fl c.k 1) c.q
  have n5 := spec115 hb (fl c.k 5) c.x
  have n6 := spec115 hb (fl c.k 6) c.y
  rw [has_seq] at q1
  rw [has_a] at q2
  rw [has_b] at q3
  rw [has_amount] at q4
  rw [has_x] at q5
  rw [has_y] at q6
  have hlen : c.cells.length = 10 := rfl
  have c0 : ∀ hh, c.cells[0]'hh = .int .i64 c.k := fun _ => rfl
  have c1 : ∀ hh, c.cells[1]'hh = .int .u64 c.s := fun _ => rfl
  have c2 : ∀ hh, c.cells[2]'hh = .int .u64 c.q := fun _ => rfl
  have c3 : ∀ hh, c.cells[3]'hh = .int .u64 c.a := fun _ => rfl
  have c4 : ∀ hh, c.cells[4]'hh = .int .u64 c.b := fun _ => rfl
  have c7 : ∀ hh, c.cells[7]'hh = .int .i64 c.sc := fun _ => rfl
  have c8 : ∀ hh, c.cells[8]'hh = .str c.x := fun _ => rfl
  have c9 : ∀ hh, c.cells[9]'hh = .str c.y := fun _ => rfl
  have c5 : (c.cells.drop 5).take 3 = [.int .i64 c.hi, .int .u64 c.lo, .int .i64 c.sc] := rfl
  unfold rightD
  generalize numR true c.s = r0 at *
  generalize numR (fl c.k 1) c.q = r1 at *
  generalize nameR (fl c.k 5) c.x = r5 at *
  generalize nameR (fl c.k 6) c.y = r6 at *
  unfold amtR scOk
  generalize fl c.k 1 = f1 at *
  generalize fl c.k 2 = f2 at *
  generalize fl c.k 3 = f3 at *
  generalize fl c.k 4 = f4 at *
  generalize fl c.k 5 = f5 at *
  generalize fl c.k 6 = f6 at *
  generalize ofT c.k = o at *
  generalize c.cells = cs at *
  refine callX rfl (by rfl : F 86 = some M.a86) (fun R RO RD RT E => ?_)
  by_cases ho : o = []
  · subst ho
    simp [M.a86, E.eqs, ← hhb, bb, tr, hlen, c0, qo, fldA, freshB, loadA]
  · have hoe : o.isEmpty = false := by cases o with
      | nil => exact absurd rfl ho
      | cons a l => rfl
    have hob : (o == []) = false := by cases o with
      | nil => exact absurd rfl ho
      | cons a l => rfl
    cases r0
    · simp [M.a86, E.eqs, ← hhb, bb, tr, hlen, c0, c1, qo, ho, hoe, hob, n0, fldA, freshB, loadA]
    · cases r1
      · simp [M.a86, E.eqs, ← hhb, bb, tr, hlen, c0, c1, c2, qo, ho, hoe, hob, n0, n1, q1, fldA, freshB, loadA]
      · cases r5
        · simp [M.a86, E.eqs, ← hhb, bb, tr, hlen, c0, c1, c2, c8, qo, ho, hoe, hob, n0, n1, q1, q5, n5, fldA, freshB, loadA]
        · cases r6
          · simp [M.a86, E.eqs, ← hhb, bb, tr, hlen, c0, c1, c2, c8, c9, qo, ho, hoe, hob, n0, n1, q1, q5, n5, q6, n6, fldA, freshB, loadA]
          · rcases (by cases f2 <;> simp <;> omega : f2 = true ∨ (f2 = false ∧ c.a = 0) ∨ (f2 = false ∧ ¬ c.a = 0)) with rfl | ⟨rfl, ha⟩ | ⟨rfl, ha⟩
            · rcases (by cases f3 <;> simp <;> omega : f3 = true ∨ (f3 = false ∧ c.b = 0) ∨ (f3 = false ∧ ¬ c.b = 0)) with rfl | ⟨rfl, hb0⟩ | ⟨rfl, hb0⟩
              · cases f4
                · simp [M.a86, E.eqs, ← hhb, bb, tr, hlen, c0, c1, c2, c3, c4, c5, c7, c8, c9, qo, ho, hoe, hob, n0, n1, q1, q5, n5, q6, n6, q2, q3, q4, fldA, freshB, loadA]
                · by_cases hs : 0 ≤ c.sc
                  · simp [M.a86, E.eqs, ← hhb, bb, tr, hlen, c0, c1, c2, c3, c4, c5, c7, c8, c9, qo, ho, hoe, hob, n0, n1, q1, q5, n5, q6, n6, q2, q3, q4, fldA, freshB, loadA, hs]
                  · simp [M.a86, E.eqs, ← hhb, bb, tr, hlen, c0, c1, c2, c3, c4, c5, c7, c8, c9, qo, ho, hoe, hob, n0, n1, q1, q5, n5, q6, n6, q2, q3, q4, fldA, freshB, loadA, hs]
              · cases f4
                · simp [M.a86, E.eqs, ← hhb, bb, tr, hlen, c0, c1, c2, c3, c4, c5, c7, c8, c9, qo, ho, hoe, hob, n0, n1, q1, q5, n5, q6, n6, q2, q3, q4, fldA, freshB, loadA, hb0]
                · by_cases hs : 0 ≤ c.sc
                  · simp [M.a86, E.eqs, ← hhb, bb, tr, hlen, c0, c1, c2, c3, c4, c5, c7, c8, c9, qo, ho, hoe, hob, n0, n1, q1, q5, n5, q6, n6, q2, q3, q4, fldA, freshB, loadA, hb0, hs]
                  · simp [M.a86, E.eqs, ← hhb, bb, tr, hlen, c0, c1, c2, c3, c4, c5, c7, c8, c9, qo, ho, hoe, hob, n0, n1, q1, q5, n5, q6, n6, q2, q3, q4, fldA, freshB, loadA, hb0, hs]
              · simp [M.a86, E.eqs, ← hhb, bb, tr, hlen, c0, c1, c2, c3, c4, c5, c7, c8, c9, qo, ho, hoe, hob, n0, n1, q1, q5, n5, q6, n6, q2, q3, q4, fldA, freshB, loadA, hb0]
            · rcases (by cases f3 <;> simp <;> omega : f3 = true ∨ (f3 = false ∧ c.b = 0) ∨ (f3 = false ∧ ¬ c.b = 0)) with rfl | ⟨rfl, hb0⟩ | ⟨rfl, hb0⟩
              · cases f4
                · simp [M.a86, E.eqs, ← hhb, bb, tr, hlen, c0, c1, c2, c3, c4, c5, c7, c8, c9, qo, ho, hoe, hob, n0, n1, q1, q5, n5, q6, n6, q2, q3, q4, fldA, freshB, loadA, ha]
                · by_cases hs : 0 ≤ c.sc
                  · simp [M.a86, E.eqs, ← hhb, bb, tr, hlen, c0, c1, c2, c3, c4, c5, c7, c8, c9, qo, ho, hoe, hob, n0, n1, q1, q5, n5, q6, n6, q2, q3, q4, fldA, freshB, loadA, ha, hs]
                  · simp [M.a86, E.eqs, ← hhb, bb, tr, hlen, c0, c1, c2, c3, c4, c5, c7, c8, c9, qo, ho, hoe, hob, n0, n1, q1, q5, n5, q6, n6, q2, q3, q4, fldA, freshB, loadA, ha, hs]
              · cases f4
                · simp [M.a86, E.eqs, ← hhb, bb, tr, hlen, c0, c1, c2, c3, c4, c5, c7, c8, c9, qo, ho, hoe, hob, n0, n1, q1, q5, n5, q6, n6, q2, q3, q4, fldA, freshB, loadA, ha, hb0]
                · by_cases hs : 0 ≤ c.sc
                  · simp [M.a86, E.eqs, ← hhb, bb, tr, hlen, c0, c1, c2, c3, c4, c5, c7, c8, c9, qo, ho, hoe, hob, n0, n1, q1, q5, n5, q6, n6, q2, q3, q4, fldA, freshB, loadA, ha, hb0, hs]
                  · simp [M.a86, E.eqs, ← hhb, bb, tr, hlen, c0, c1, c2, c3, c4, c5, c7, c8, c9, qo, ho, hoe, hob, n0, n1, q1, q5, n5, q6, n6, q2, q3, q4, fldA, freshB, loadA, ha, hb0, hs]
              · simp [M.a86, E.eqs, ← hhb, bb, tr, hlen, c0, c1, c2, c3, c4, c5, c7, c8, c9, qo, ho, hoe, hob, n0, n1, q1, q5, n5, q6, n6, q2, q3, q4, fldA, freshB, loadA, ha, hb0]
            · simp [M.a86, E.eqs, ← hhb, bb, tr, hlen, c0, c1, c2, c3, c4, c5, c7, c8, c9, qo, ho, hoe, hob, n0, n1, q1, q5, n5, q6, n6, q2, q3, q4, fldA, freshB, loadA, ha]
end Go.Proofs.Ytoghoddofokekaa
end

section
set_option linter.unusedVariables false
set_option linter.unusedSimpArgs false
set_option maxRecDepth 100000
namespace Go.Proofs.Ytoghoddofokekaa
open Go.Abs

/-- three letters -/
def rName (l : List UInt8) (a bad : Nat) : List UInt8 × Nat × Nat :=
  let r1 := rByte l a bad 90
  let r2 := rByte l r1.2.1 r1.2.2 90
  let r3 := rByte l r2.2.1 r2.2.2 90
  ([UInt8.ofNat r1.1, UInt8.ofNat r2.1, UInt8.ofNat r3.1], r3.2.1, r3.2.2)
theorem rName_lt (l : List UInt8) (a bad : Nat) (ha : a ≤ l.length) (hb : bad < 100) : (rName l a bad).2.1 ≤ l.length ∧ (rName l a bad).2.2 < 100 ∧ (rName l a bad).1.length = 3 := by
  obtain ⟨h1, h2, _⟩ := rByte_lt l a bad 90
  obtain ⟨h3, h4, _⟩ := rByte_lt l (rByte l a bad 90).2.1 (rByte l a bad 90).2.2 90
  obtain ⟨h5, h6, _⟩ := rByte_lt l (rByte l (rByte l a bad 90).2.1 (rByte l a bad 90).2.2 90).2.1 (rByte l (rByte l a bad 90).2.1 (rByte l a bad 90).2.2 90).2.2 90
  exact ⟨h5 (h3 (h1 ha)), h6 (h4 (h2 hb)), rfl⟩

section
variable {h : Heap} {i : Nat} {x : SV} {l : List UInt8} {a bad : Nat}

theorem ofNat_to {n : Nat} (h : n < 256) : (UInt8.ofNat n).toNat = n := by rw [UInt8.toNat_ofNat']; omega

theorem spec114 (r : Rd h i x l a bad) : ∃ h', call 114 [[.sc (.ptr i 0 3)]] h = some ([.sc (.str (rName l a bad).1)], h') ∧ RdS h i x l h' (rName l a bad).2.1 (rName l a bad).2.2 := by
  obtain ⟨h1, h2, hb1⟩ := rByte_lt l a bad 90
  have h1 := h1 r.le
  have h2 := h2 r.small
  have q1 := byteP r r.le r.small (most := 90) (by omega) []
  unfold rName
  generalize rByte l a bad 90 = D1 at *
  obtain ⟨n1, a1, b1⟩ := D1
  simp only at h1 h2 hb1 q1 ⊢
  obtain ⟨h3, h4, hb2⟩ := rByte_lt l a1 b1 90
  have h3 := h3 h1
  have h4 := h4 h2
  have q2 := byteP r h1 h2 (most := 90) (by omega) []
  generalize rByte l a1 b1 90 = D2 at *
  obtain ⟨n2, a2, b2⟩ := D2
  simp only at h3 h4 hb2 q2 ⊢
  obtain ⟨h5, h6, hb3⟩ := rByte_lt l a2 b2 90
  have h5 := h5 h3
  have h6 := h6 h4
  have q3 := byteP r h3 h4 (most := 90) (by omega) []
  generalize rByte l a2 b2 90 = D3 at *
  obtain ⟨n3, a3, b3⟩ := D3
  simp only at h5 h6 hb3 q3 ⊢
  rw [r.same] at q1
  simp only [List.append_nil] at q1 q2 q3
  have z1 : ((90 : Nat) : Int) = 90 := rfl
  rw [z1] at q1 q2 q3
  have eb : Go.Abs.bytes [UInt8.ofNat n1, UInt8.ofNat n2, UInt8.ofNat n3] = [.int .u8 n1, .int .u8 n2, .int .u8 n3] := by
    simp [Go.Abs.bytes]
    omega
  have own := new_own (h := setR h i x a3 b3) (n := 3) (sz := 1) (cs := [.int .u8 n1, .int .u8 n2, .int .u8 n3]) 5 rfl
  have q4 := b2sA_row (l := [UInt8.ofNat n1, UInt8.ofNat n2, UInt8.ofNat n3]) (by rw [eb]; exact own.row)
  have q4' := q4
  rw [setR_length] at q4'
  refine ⟨_, callX (hh := trim h (setR h i x a3 b3 ++ [⟨.row 5 1, [.int .u8 n1, .int .u8 n2, .int .u8 n3]⟩]) [.sc (.str [UInt8.ofNat n1, UInt8.ofNat n2, UInt8.ofNat n3])]) rfl (by rfl : F 114 = some M.a114) (fun R RO RD RT E => ?_), RdS.trim r ⟨(r.set h5 h6).app _, (setR_mod _ _ _ _ _).trans (Mod.app (fun _ => False) _ _) fun _ _ h => h.elim⟩ _⟩
  simp [M.a114, E.eqs, q1, q2, q3, q4, q4']

theorem letters_step {H : Heap} {y : SV} {w : List UInt8} {e : Env} (k : Nat) (hk : k < 3) (r : Rd H i x l a bad) (m : Mod (fun j => j = i) h H) (hi : i < h.length) (hx : ∀ j, blk x j → j < h.length) (o : Own H y 5 1 w.length (Go.Abs.bytes w)) (hw : w.length < 10) (hn : ∀ j, blk y j → h.length ≤ j)
    (e0 : e.get 0 = [.sc (.ptr i 0 3)]) (e3 : e.get 3 = [.sc y]) (e4 : e.get 4 = [.sc (.int .i64 k)]) :
    ∃ y' H', (∀ R RO RD RT, Mach F O R RO RD RT → R M.b85_0 (keep [0, 3, 4] e) H = some (.normal, [(0, [.sc (.ptr i 0 3)]), (3, [.sc y']), (4, [.sc (.int .i64 ((k + 1 : Nat) : Int))])], H')) ∧
      Rd H' i x l (rByte l a bad 90).2.1 (rByte l a bad 90).2.2 ∧ Mod (fun j => j = i) h H' ∧ Own H' y' 5 1 (w ++ [UInt8.ofNat (rByte l a bad 90).1]).length (Go.Abs.bytes (w ++ [UInt8.ofNat (rByte l a bad 90).1])) ∧ ∀ j, blk y' j → h.length ≤ j := by
  obtain ⟨h1, h2, hb1⟩ := rByte_lt l a bad 90
  have h1 := h1 r.le
  have h2 := h2 r.small
  have q1 := spec78 r (most := 90) (by omega)
  generalize rByte l a bad 90 = D1 at *
  obtain ⟨n1, a1, b1⟩ := D1
  simp only at h1 h2 hb1 q1 ⊢
  have z1 : ((90 : Nat) : Int) = 90 := rfl
  rw [z1] at q1
  have hd : ∀ j, blk y j → ¬ j = i := fun j hj e => by have := hn j hj; omega
  have o1 := o.mod (setR_mod H i x a1 b1) hd
  obtain ⟨q2, s2⟩ := own_app1 o1 (UInt8.ofNat n1) (by simp [lim]; omega)
  rw [ofNat_to hb1] at q2 s2
  have r1 := r.set h1 h2
  have r2 := r1.beside s2.mod (fun hb => hd i hb rfl) fun j hj hb => by have := hx j hj; have := hn j hb; omega
  have hle : h.length ≤ (setR H i x a1 b1).length := by rw [setR_length]; exact m.1
  have w1 : IntKind.i64.wrap ((k : Int) + 1) = (k : Int) + 1 := wi64 (by omega) (by omega)
  have c1 : (k : Int) < 3 := by omega
  have m1 := m.trans (setR_mod H i x a1 b1) fun _ _ h => h
  generalize appV (setR H i x a1 b1) y 1 1 = y' at *
  generalize appH (setR H i x a1 b1) y 5 1 1 [.int .u8 n1] = H' at *
  generalize setR H i x a1 b1 = H1 at *
  refine ⟨y', H', fun R RO RD RT E => ?_, r2, ?_, s2.own, fun j hj => ?_⟩
  · simp [M.b85_0, E.eqs, e0, e3, e4, q1, q2, c1, w1]
  · exact m1.trans s2.mod fun j hj hb => by have := hn j hb; omega
  · rcases s2.new j hj with h | h
    · exact hn j h
    · omega

theorem spec85 (r : Rd h i x l a bad) : ∃ h', call 85 [[.sc (.ptr i 0 3)]] h = some ([.sc (.str (rName l a bad).1)], h') ∧ RdS h i x l h' (rName l a bad).2.1 (rName l a bad).2.2 := by
  have hi := r.lt
  have hx := r.row.lt
  obtain ⟨y1, H1, b1, r1, m1, o1, n1⟩ := letters_step (e := [(0, [.sc (.ptr i 0 3)]), (3, [.sc .nils]), (4, [.sc (.int .i64 ((0 : Nat) : Int))])]) 0 (by omega) r (Mod.refl _ _) hi hx (own_nils h) (by simp) (fun j hj => hj.elim) rfl rfl rfl
  obtain ⟨y2, H2, b2, r2, m2, o2, n2⟩ := letters_step (e := [(0, [.sc (.ptr i 0 3)]), (3, [.sc y1]), (4, [.sc (.int .i64 ((1 : Nat) : Int))])]) 1 (by omega) r1 m1 hi hx o1 (by simp) n1 rfl rfl rfl
  obtain ⟨y3, H3, b3, r3, m3, o3, n3⟩ := letters_step (e := [(0, [.sc (.ptr i 0 3)]), (3, [.sc y2]), (4, [.sc (.int .i64 ((2 : Nat) : Int))])]) 2 (by omega) r2 m2 hi hx o2 (by simp) n2 rfl rfl rfl
  have lo : loopE F O (.loop [0, 3, 4] M.b85_0) [(0, [.sc (.ptr i 0 3)]), (3, [.sc .nils]), (4, [.sc (.int .i64 ((0 : Nat) : Int))])] h = some (.exit 0, [(0, [.sc (.ptr i 0 3)]), (3, [.sc y3]), (4, [.sc (.int .i64 3)]), (6, [.sc (.bool false)])], H3) := by
    refine stepM b1 (stepM b2 (stepM b3 (exitM fun R RO RD RT E => ?_)))
    simp [M.b85_0, E.eqs]
  have z0 : ((0 : Nat) : Int) = 0 := rfl
  rw [z0] at lo
  have q4 : b2sA H3 [.sc y3] = some ([.sc (.str (rName l a bad).1)], H3) := b2sA_row (l := (rName l a bad).1) o3.row
  have g3 : RdS h i x l H3 (rName l a bad).2.1 (rName l a bad).2.2 := ⟨r3, m3⟩
  generalize rName l a bad = W at *
  obtain ⟨w, a', bad'⟩ := W
  simp only at q4 g3 ⊢
  refine ⟨_, callX (hh := trim h H3 [.sc (.str w)]) rfl (by rfl : F 85 = some M.a85) (fun R RO RD RT E => ?_), RdS.trim r g3 _⟩
  have lo := E.run (loop_run lo)
  simp [M.a85, E.eqs, lo, q4]
end
end Go.Proofs.Ytoghoddofokekaa
end

section
set_option linter.unusedVariables false
set_option linter.unusedSimpArgs false
set_option maxRecDepth 100000
namespace Go.Proofs.Ytoghoddofokekaa
open Go.Abs

/-- one field: the command so far, the place, what is wrong -/
def rField (l : List UInt8) (j : Nat) (st : Cm × Nat × Nat) : Cm × Nat × Nat :=
  match j with
  | 0 => let r := rNum l st.2.1 st.2.2 72057594037927935; ({ st.1 with s := r.1 }, r.2.1, r.2.2)
  | 1 => let r := rNum l st.2.1 st.2.2 72057594037927935; ({ st.1 with q := r.1 }, r.2.1, r.2.2)
  | 2 => let r := rNum l st.2.1 st.2.2 18446744073709551615; ({ st.1 with a := r.1 }, r.2.1, r.2.2)
  | 3 => let r := rNum l st.2.1 st.2.2 18446744073709551615; ({ st.1 with b := r.1 }, r.2.1, r.2.2)
  | 4 => let r := rDec l st.2.1 st.2.2; ({ st.1 with hi := r.1.1, lo := r.1.2.1, sc := r.1.2.2 }, r.2.1, r.2.2)
  | 5 => let r := rName l st.2.1 st.2.2; ({ st.1 with x := r.1 }, r.2.1, r.2.2)
  | _ => let r := rName l st.2.1 st.2.2; ({ st.1 with y := r.1 }, r.2.1, r.2.2)

/-- a reader and a command, each in its cell -/
structure RC (h : Heap) (i : Nat) (x : SV) (l : List UInt8) (p : Nat) (st : Cm × Nat × Nat) : Prop where
  rd : Rd h i x l st.2.1 st.2.2
  at_ : h[p]? = some ⟨.var, st.1.cells⟩
  ne : p ≠ i
  off : ¬ blk x p

section
variable {h : Heap} {i p : Nat} {x : SV} {l : List UInt8} {st : Cm × Nat × Nat} {k : Int}

theorem RC.put (r : RC h i x l p st) {h' : Heap} {a bad : Nat} (s : RdS h i x l h' a bad) (c : Cm) : RC (h'.set p ⟨.var, c.cells⟩) i x l p (c, a, bad) ∧ Mod (fun j => j = i ∨ j = p) h (h'.set p ⟨.var, c.cells⟩) := by
  have hp : h'[p]? = some ⟨.var, st.1.cells⟩ := s.mod.get r.at_ r.ne
  have m : Mod (fun j => j = p) h' (h'.set p ⟨.var, c.cells⟩) := Mod.set _ _ rfl
  refine ⟨⟨s.rd.beside m (fun e => r.ne e.symm) fun j hj e => r.off (e ▸ hj), get_set_same hp, r.ne, r.off⟩, ?_⟩
  exact (s.mod.mono fun j _ e => .inl e).trans (m.mono fun j _ e => .inr e) fun _ _ h => h

theorem RC.trim (r : RC h i x l p st) {h' : Heap} {st' : Cm × Nat × Nat} (s : RC h' i x l p st') (m : Mod (fun j => j = i ∨ j = p) h h') (t : TV) : RC (Go.Abs.trim h h' t) i x l p st' ∧ Mod (fun j => j = i ∨ j = p) h (Go.Abs.trim h h' t) := by
  have m' := trim_mod' (r := t) m
  refine ⟨⟨⟨?_, r.rd.row.mod m' ?_, r.rd.off, r.rd.len, s.rd.le, s.rd.small⟩, ?_, r.ne, r.off⟩, m'⟩
  · rw [trim_get m.1 t r.rd.lt]
    exact s.rd.at_
  · intro j hj e
    rcases e with e | e
    · exact r.rd.off (e ▸ hj)
    · exact r.off (e ▸ hj)
  · rw [trim_get m.1 t (lt_of_get r.at_)]
    exact s.at_

theorem spec83 (r : RC h i x l p st) {j : Nat} (hj : j < 7) : ∃ h', call 83 [[.sc (.ptr i 0 3)], [.sc (.ptr p 0 10)], [.sc (.int .i64 (pw j))]] h = some ([], h') ∧ RC h' i x l p (rField l j st) ∧ Mod (fun j => j = i ∨ j = p) h h' := by
  obtain ⟨c, a, bad⟩ := st
  have z1 : ((72057594037927935 : Nat) : Int) = 72057594037927935 := rfl
  have z2 : ((18446744073709551615 : Nat) : Int) = 18446744073709551615 := rfl
  have rd := r.rd
  have num := fun (most : Nat) (hm : most < 18446744073709551616) => spec75 rd hm
  have numS : ∀ most, RdS h i x l (setR h i x (rNum l a bad most).2.1 (rNum l a bad most).2.2) (rNum l a bad most).2.1 (rNum l a bad most).2.2 := fun most => by
    obtain ⟨_, h3, h4, _⟩ := rNum_lt l a bad most
    exact rd.go (h3 rd.le) (h4 rd.small)
  have big : ∀ (g : Heap) a' bad', RdS h i x l g a' bad' → g[p]? = some ⟨.var, c.cells⟩ := fun g a' bad' s => s.mod.get r.at_ r.ne
  have hlen : c.cells.length = 10 := rfl
  simp only at rd num
  rcases (by omega : j = 0 ∨ j = 1 ∨ j = 2 ∨ j = 3 ∨ j = 4 ∨ j = 5 ∨ j = 6) with rfl | rfl | rfl | rfl | rfl | rfl | rfl
  · have q := num 72057594037927935 (by omega)
    have s := numS 72057594037927935
    unfold rField
    simp only
    generalize rNum l a bad 72057594037927935 = D at *
    obtain ⟨n, a', bad'⟩ := D
    simp only at q s ⊢
    rw [z1] at q
    have k := big _ _ _ s
    obtain ⟨t1, t2⟩ := r.put s { c with s := n }
    obtain ⟨t3, t4⟩ := r.trim t1 t2 []
    refine ⟨_, callX (hh := Go.Abs.trim h ((setR h i x a' bad').set p ⟨.var, ({ c with s := n } : Cm).cells⟩) []) rfl (by rfl : F 83 = some M.a83) (fun R RO RD RT E => ?_), t3, t4⟩
    clear t1 t2 t3 t4
    generalize setR h i x a' bad' = g at *
    simp [M.a83, E.eqs, pw, q, nilckA, fldA, freshB, storeA, k, Cm.cells]
  · have q := num 72057594037927935 (by omega)
    have s := numS 72057594037927935
    unfold rField
    simp only
    generalize rNum l a bad 72057594037927935 = D at *
    obtain ⟨n, a', bad'⟩ := D
    simp only at q s ⊢
    rw [z1] at q
    have k := big _ _ _ s
    obtain ⟨t1, t2⟩ := r.put s { c with q := n }
    obtain ⟨t3, t4⟩ := r.trim t1 t2 []
    refine ⟨_, callX (hh := Go.Abs.trim h ((setR h i x a' bad').set p ⟨.var, ({ c with q := n } : Cm).cells⟩) []) rfl (by rfl : F 83 = some M.a83) (fun R RO RD RT E => ?_), t3, t4⟩
    clear t1 t2 t3 t4
    generalize setR h i x a' bad' = g at *
    simp [M.a83, E.eqs, pw, q, nilckA, fldA, freshB, storeA, k, Cm.cells]
  · have q := num 18446744073709551615 (by omega)
    have s := numS 18446744073709551615
    unfold rField
    simp only
    generalize rNum l a bad 18446744073709551615 = D at *
    obtain ⟨n, a', bad'⟩ := D
    simp only at q s ⊢
    rw [z2] at q
    have k := big _ _ _ s
    obtain ⟨t1, t2⟩ := r.put s { c with a := n }
    obtain ⟨t3, t4⟩ := r.trim t1 t2 []
    refine ⟨_, callX (hh := Go.Abs.trim h ((setR h i x a' bad').set p ⟨.var, ({ c with a := n } : Cm).cells⟩) []) rfl (by rfl : F 83 = some M.a83) (fun R RO RD RT E => ?_), t3, t4⟩
    clear t1 t2 t3 t4
    generalize setR h i x a' bad' = g at *
    simp [M.a83, E.eqs, pw, q, nilckA, fldA, freshB, storeA, k, Cm.cells]
  · have q := num 18446744073709551615 (by omega)
    have s := numS 18446744073709551615
    unfold rField
    simp only
    generalize rNum l a bad 18446744073709551615 = D at *
    obtain ⟨n, a', bad'⟩ := D
    simp only at q s ⊢
    rw [z2] at q
    have k := big _ _ _ s
    obtain ⟨t1, t2⟩ := r.put s { c with b := n }
    obtain ⟨t3, t4⟩ := r.trim t1 t2 []
    refine ⟨_, callX (hh := Go.Abs.trim h ((setR h i x a' bad').set p ⟨.var, ({ c with b := n } : Cm).cells⟩) []) rfl (by rfl : F 83 = some M.a83) (fun R RO RD RT E => ?_), t3, t4⟩
    clear t1 t2 t3 t4
    generalize setR h i x a' bad' = g at *
    simp [M.a83, E.eqs, pw, q, nilckA, fldA, freshB, storeA, k, Cm.cells]
  · obtain ⟨g, q, s⟩ := spec76 rd
    unfold rField
    simp only at q s ⊢
    generalize rDec l a bad = D at *
    obtain ⟨⟨u, n3, n4⟩, a', bad'⟩ := D
    simp only at q s ⊢
    have k := big _ _ _ s
    obtain ⟨t1, t2⟩ := r.put s { c with hi := u, lo := n3, sc := n4 }
    obtain ⟨t3, t4⟩ := r.trim t1 t2 []
    refine ⟨_, callX (hh := Go.Abs.trim h (g.set p ⟨.var, ({ c with hi := u, lo := n3, sc := n4 } : Cm).cells⟩) []) rfl (by rfl : F 83 = some M.a83) (fun R RO RD RT E => ?_), t3, t4⟩
    clear t1 t2 t3 t4
    simp [M.a83, E.eqs, pw, q, nilckA, fldA, freshB, storeA, k, Cm.cells]
  · obtain ⟨g, q, s⟩ := spec114 rd
    unfold rField
    simp only at q s ⊢
    generalize rName l a bad = D at *
    obtain ⟨n, a', bad'⟩ := D
    simp only at q s ⊢
    have k := big _ _ _ s
    obtain ⟨t1, t2⟩ := r.put s { c with x := n }
    obtain ⟨t3, t4⟩ := r.trim t1 t2 []
    refine ⟨_, callX (hh := Go.Abs.trim h (g.set p ⟨.var, ({ c with x := n } : Cm).cells⟩) []) rfl (by rfl : F 83 = some M.a83) (fun R RO RD RT E => ?_), t3, t4⟩
    clear t1 t2 t3 t4
    simp [M.a83, E.eqs, pw, q, nilckA, fldA, freshB, storeA, k, Cm.cells]
  · obtain ⟨g, q, s⟩ := spec114 rd
    unfold rField
    simp only at q s ⊢
    generalize rName l a bad = D at *
    obtain ⟨n, a', bad'⟩ := D
    simp only at q s ⊢
    have k := big _ _ _ s
    obtain ⟨t1, t2⟩ := r.put s { c with y := n }
    obtain ⟨t3, t4⟩ := r.trim t1 t2 []
    refine ⟨_, callX (hh := Go.Abs.trim h (g.set p ⟨.var, ({ c with y := n } : Cm).cells⟩) []) rfl (by rfl : F 83 = some M.a83) (fun R RO RD RT E => ?_), t3, t4⟩
    clear t1 t2 t3 t4
    simp [M.a83, E.eqs, pw, q, nilckA, fldA, freshB, storeA, k, Cm.cells]

/-- all fields of a kind, from the j-th on -/
def rFrom (l : List UInt8) (k : Int) : Nat → Nat → Cm × Nat × Nat → Cm × Nat × Nat
  | 0, _, st => st
  | m + 1, j, st => rFrom l k m (j + 1) (if fl k j then rField l j st else st)

theorem dec_loop {v2 : TV} : ∀ (m j : Nat) (h : Heap) (st : Cm × Nat × Nat) (e : Env), j + m = 7 → RC h i x l p st → e.get 2 = v2 → e.get 4 = [.sc (.ptr i 0 3)] → e.get 5 = [.sc (.ptr p 0 10)] → e.get 6 = [.sc (.int .i64 (mask k))] → e.get 7 = [.sc (.int .i64 (pw j))] →
    ∃ h' e', loopE F O (.loop [2, 4, 5, 6, 7] M.b34_0) e h = some (.exit 0, e', h') ∧ e'.get 2 = v2 ∧ e'.get 4 = [.sc (.ptr i 0 3)] ∧ e'.get 5 = [.sc (.ptr p 0 10)] ∧ RC h' i x l p (rFrom l k m j st) ∧ Mod (fun j => j = i ∨ j = p) h h'
  | 0, j, h, st, e, hj, r, e2, e4, e5, e6, e7 => by
    have : j = 7 := by omega
    subst this
    have p7 : pw 7 = 128 := rfl
    rw [p7] at e7
    refine ⟨h, [(2, v2), (4, [.sc (.ptr i 0 3)]), (5, [.sc (.ptr p 0 10)]), (6, [.sc (.int .i64 (mask k))]), (7, [.sc (.int .i64 128)]), (23, [.sc (.bool false)])], exitM fun R RO RD RT E => ?_, rfl, rfl, rfl, r, Mod.refl _ _⟩
    simp [M.b34_0, E.eqs, e2, e4, e5, e6, e7]
  | m + 1, j, h, st, e, hj, r, e2, e4, e5, e6, e7 => by
    have hlt : j < 7 := by omega
    have mb := mask_bit k j hlt
    have p1 := pw_ne hlt
    have p2 := pw_lt hlt
    have p3 : IntKind.i64.wrap (pw j * 2 ^ shAmt .i64 1) = pw (j + 1) := by
      clear mb e7 p1 p2
      rcases (by omega : j = 0 ∨ j = 1 ∨ j = 2 ∨ j = 3 ∨ j = 4 ∨ j = 5 ∨ j = 6) with rfl | rfl | rfl | rfl | rfl | rfl | rfl <;> rfl
    obtain ⟨h1, q1, r1, m1⟩ := spec83 r hlt
    cases hf : fl k j
    · obtain ⟨h', e', lo, g2, g4, g5, r', m'⟩ := dec_loop (v2 := v2) m (j + 1) h st [(2, v2), (4, [.sc (.ptr i 0 3)]), (5, [.sc (.ptr p 0 10)]), (6, [.sc (.int .i64 (mask k))]), (7, [.sc (.int .i64 (pw (j + 1)))])] (by omega) r rfl rfl rfl rfl rfl
      rw [hf] at mb
      simp only [Bool.false_eq_true, if_false] at mb
      refine ⟨h', e', stepM (fun R RO RD RT E => ?_) lo, g2, g4, g5, by rw [rFrom, hf]; exact r', m'⟩
      clear lo r' m' r1 m1
      generalize pw (j + 1) = pn at *
      generalize pw j = pj at *
      simp [M.b34_0, E.eqs, e2, e4, e5, e6, e7, p1, p2, p3, mb]
    · obtain ⟨h', e', lo, g2, g4, g5, r', m'⟩ := dec_loop (v2 := v2) m (j + 1) h1 (rField l j st) [(2, v2), (4, [.sc (.ptr i 0 3)]), (5, [.sc (.ptr p 0 10)]), (6, [.sc (.int .i64 (mask k))]), (7, [.sc (.int .i64 (pw (j + 1)))])] (by omega) r1 rfl rfl rfl rfl rfl
      rw [hf] at mb
      simp only [if_true] at mb
      refine ⟨h', e', stepM (fun R RO RD RT E => ?_) lo, g2, g4, g5, by rw [rFrom, hf]; exact r', m1.trans m' fun _ _ h => h⟩
      clear lo r' m' r1 m1
      generalize pw (j + 1) = pn at *
      generalize pw j = pj at *
      simp [M.b34_0, E.eqs, e2, e4, e5, e6, e7, p1, p2, p3, mb, q1]
end
end Go.Proofs.Ytoghoddofokekaa
end

section
set_option linter.unusedVariables false
set_option linter.unusedSimpArgs false
set_option maxRecDepth 100000
namespace Go.Proofs.Ytoghoddofokekaa
open Go.Abs

/-- what is read: the command, and what is wrong -/
def rCmd (l : List UInt8) : Cm × Nat :=
  if 128 < l.length then (Cm.zero, 12) else
  let r1 := rByte l 0 0 11
  let st := rFrom l r1.1 7 0 ({ Cm.zero with k := r1.1 }, r1.2.1, r1.2.2)
  let e := rEnd l st.2.1 st.2.2
  let e' := if e = 0 ∧ rightC st.1 = false then 11 else e
  if e' = 0 then (st.1, 0) else (Cm.zero, e')

theorem rField_len (l : List UInt8) (j : Nat) (st : Cm × Nat × Nat) (hx : st.1.x.length ≤ 3) (hy : st.1.y.length ≤ 3) : (rField l j st).1.x.length ≤ 3 ∧ (rField l j st).1.y.length ≤ 3 := by
  unfold rField
  split <;> simp [rName, hx, hy]
theorem rFrom_len (l : List UInt8) (k : Int) : ∀ (m j : Nat) (st : Cm × Nat × Nat), st.1.x.length ≤ 3 → st.1.y.length ≤ 3 → (rFrom l k m j st).1.x.length ≤ 3 ∧ (rFrom l k m j st).1.y.length ≤ 3
  | 0, j, st, hx, hy => ⟨hx, hy⟩
  | m + 1, j, st, hx, hy => by
    unfold rFrom
    split
    · obtain ⟨a, b⟩ := rField_len l j st hx hy
      exact rFrom_len l k m (j + 1) _ a b
    · exact rFrom_len l k m (j + 1) _ hx hy
theorem rField_k (l : List UInt8) (j : Nat) (st : Cm × Nat × Nat) : (rField l j st).1.k = st.1.k := by
  unfold rField
  split <;> rfl
theorem rFrom_k (l : List UInt8) (k : Int) : ∀ (m j : Nat) (st : Cm × Nat × Nat), (rFrom l k m j st).1.k = st.1.k
  | 0, j, st => rfl
  | m + 1, j, st => by
    unfold rFrom
    split
    · rw [rFrom_k l k m (j + 1) _, rField_k]
    · exact rFrom_k l k m (j + 1) _

section
variable {h : Heap} {y : SV} {l : List UInt8}

set_option maxHeartbeats 2000000 in
theorem spec34 (hy : Row h y 1 l.length (Go.Abs.bytes l)) (hl : l.length ≤ 140737488353280) : ∃ h', call 34 [[.sc y]] h = some ([.agg (rCmd l).1.cells, .sc (.int .i64 (rCmd l).2)], h') ∧ Mod (fun _ => False) h h' := by
  have e0 := lenA_row hy
  have hzc : Cm.zero.cells = [.int .i64 0, .int .u64 0, .int .u64 0, .int .u64 0, .int .u64 0, .int .i64 0, .int .u64 0, .int .i64 0, .str [], .str []] := rfl
  obtain ⟨H0, hH0⟩ : ∃ H0 : Heap, H0 = h ++ [⟨.var, Cm.zero.cells⟩] := ⟨_, rfl⟩
  have mH0 : Mod (fun _ => False) h H0 := by rw [hH0]; exact Mod.app _ _ _
  have bH0 : H0[h.length]? = some ⟨.var, Cm.zero.cells⟩ := by rw [hH0]; simp
  have lH0 : H0.length = h.length + 1 := by rw [hH0]; simp
  have hy0 := hy.mod mH0 fun _ _ h => h
  have e1 := lenA_row hy0
  unfold rCmd
  by_cases hbig : 128 < l.length
  · rw [if_pos hbig]
    have c1 : (128 : Int) < l.length := by omega
    have kk : ∀ B : Blk, (H0.set h.length B)[h.length]? = some B := fun B => get_set_same bH0
    have mm : Mod (fun _ => False) h (H0.set h.length ⟨.var, Cm.zero.cells⟩) := mH0.trans (Mod.set _ _ rfl : Mod (fun j => j = h.length) H0 (H0.set h.length ⟨.var, Cm.zero.cells⟩)) fun j hj e => by omega
    refine ⟨_, callX (hh := trim h (H0.set h.length ⟨.var, Cm.zero.cells⟩) [.agg Cm.zero.cells, .sc (.int .i64 12)]) rfl (by rfl : F 34 = some M.a34) (fun R RO RD RT E => ?_), trim_mod' mm⟩
    rw [hzc] at *
    simp [M.a34, E.eqs, ← hH0, e1, c1, bH0, kk, freshB, loadA, storeA]
  · rw [if_neg hbig]
    have c1 : ¬ (128 : Int) < l.length := by omega
    obtain ⟨n0, r0⟩ := spec73 hy0 hl
    have m0 : Mod (fun _ => False) H0 (H0 ++ [⟨.row 5 1, Go.Abs.bytes l⟩, ⟨.var, [.sl H0.length 0 l.length l.length, .int .i64 0, .int .i64 0]⟩]) := Mod.app _ _ _
    have lx : ∀ j, blk (SV.sl H0.length 0 l.length l.length) j → j = H0.length := fun j hj => by simpa [blk, eq_comm] using hj
    generalize (H0 ++ [⟨.row 5 1, Go.Abs.bytes l⟩, ⟨.var, [.sl H0.length 0 l.length l.length, .int .i64 0, .int .i64 0]⟩] : Heap) = h0 at *
    generalize SV.sl H0.length 0 l.length l.length = x at *
    obtain ⟨i, hi⟩ : ∃ i, i = H0.length + 1 := ⟨_, rfl⟩
    rw [← hi] at n0 r0
    have hlt := r0.lt
    obtain ⟨hp, hhp⟩ : ∃ hp : Heap, hp = h0 ++ [⟨.var, Cm.zero.cells⟩] := ⟨_, rfl⟩
    have mp : Mod (fun _ => False) h0 hp := by rw [hhp]; exact Mod.app _ _ _
    have rp : RC hp i x l h0.length (Cm.zero, 0, 0) := ⟨by rw [hhp]; exact r0.app _, by rw [hhp]; simp, by omega, fun hb => by have := lx _ hb; omega⟩
    have bp : hp[h.length]? = some ⟨.var, Cm.zero.cells⟩ := mp.get (m0.get bH0 fun h => h) fun h => h
    have q1 := spec74 rp.rd (most := 11) (by omega)
    simp only at q1
    obtain ⟨x1, x2, hb1⟩ := rByte_lt l 0 0 11
    have x1 := x1 (by omega)
    have x2 := x2 (by omega)
    have s1 := rp.rd.go x1 x2
    generalize rByte l 0 0 11 = D1 at *
    obtain ⟨n1, a1, b1⟩ := D1
    simp only at q1 x1 x2 hb1 s1 ⊢
    have z1 : ((11 : Nat) : Int) = 11 := rfl
    rw [z1] at q1
    have w1 := wi64n hb1
    have k1 : (setR hp i x a1 b1)[h0.length]? = some ⟨.var, Cm.zero.cells⟩ := s1.mod.get rp.at_ rp.ne
    obtain ⟨rk, mk⟩ := rp.put s1 { Cm.zero with k := n1 }
    have q2 := fun h => spec82 h (n1 : Int)
    generalize setR hp i x a1 b1 = g1 at *
    have hcz : ({ Cm.zero with k := (n1 : Int) } : Cm).cells = [.int .i64 n1, .int .u64 0, .int .u64 0, .int .u64 0, .int .u64 0, .int .i64 0, .int .u64 0, .int .i64 0, .str [], .str []] := rfl
    have k2 : ∀ B : Blk, (g1.set h0.length B)[h0.length]? = some B := fun B => get_set_same k1
    obtain ⟨h3, e', lo, g2, g4, g5, r3, m3⟩ := dec_loop (k := (n1 : Int)) (v2 := [.sc (.ptr h.length 0 10)]) 7 0 _ _ [(2, [.sc (.ptr h.length 0 10)]), (4, [.sc (.ptr i 0 3)]), (5, [.sc (.ptr h0.length 0 10)]), (6, [.sc (.int .i64 (mask n1))]), (7, [.sc (.int .i64 (pw 0))])] (by omega) rk rfl rfl rfl rfl rfl
    have hp0 : pw 0 = 1 := rfl
    rw [hp0, hcz] at lo
    have lo := loop_run lo
    have ln := rFrom_len l n1 7 0 ({ Cm.zero with k := (n1 : Int) }, a1, b1) (by simp [Cm.zero]) (by simp [Cm.zero])
    generalize rFrom l n1 7 0 ({ Cm.zero with k := (n1 : Int) }, a1, b1) = st at *
    obtain ⟨c3, a3, b3⟩ := st
    simp only at ln r3 ⊢
    have q3 := spec77 r3.rd
    simp only at q3
    have q4 := spec37 h3 c3 (by omega) (by omega)
    have k3 := r3.at_
    simp only at k3
    have m4 : Mod (fun j => j = i ∨ j = h0.length) hp h3 := mk.trans m3 fun _ _ h => h
    have k4 : h3[h.length]? = some ⟨.var, Cm.zero.cells⟩ := m4.get bp (by omega)
    have k5 : ∀ B : Blk, (h3.set h.length B)[h.length]? = some B := fun B => get_set_same k4
    have m5 : ∀ c : Cm, Mod (fun _ => False) h (h3.set h.length ⟨.var, c.cells⟩) := fun c => by
      have t1 : Mod (fun j => j = h.length) h3 (h3.set h.length ⟨.var, c.cells⟩) := Mod.set _ _ rfl
      have l1 := m0.1
      have t2 : Mod (fun j => h.length ≤ j) h hp := ((mH0.mono fun _ _ h => h.elim).trans (m0.mono fun _ _ h => h.elim) fun _ _ h => h).trans (mp.mono fun _ _ h => h.elim) fun _ _ h => h
      have t3 : Mod (fun j => h.length ≤ j) h h3 := t2.trans (m4.mono fun j _ e => by rcases e with e | e <;> omega) fun _ _ h => h
      exact Mod.old (t3.trans (t1.mono fun j _ e => by omega) fun _ _ h => h)
    have hcc : c3.cells.length = 10 := rfl
    have hct : c3.cells.take 10 = c3.cells := rfl
    have mk5 := m5 c3
    have mz5 := m5 Cm.zero
    clear r0 rp s1 rk mk r3 m3 m4 m5 mp m0
    have hset : setCells Cm.zero.cells 0 c3.cells = c3.cells := rfl
    generalize hcs : c3.cells = cs at *
    by_cases ce : rEnd l a3 b3 = 0
    · cases cr : rightC c3
      · rw [if_pos (show rEnd l a3 b3 = 0 ∧ false = false from ⟨ce, rfl⟩), if_neg (show ¬ (11 : Nat) = 0 by omega)]
        rw [ce] at q3
        rw [cr] at q4
        refine ⟨_, callX (hh := trim h (h3.set h.length ⟨.var, Cm.zero.cells⟩) [.agg Cm.zero.cells, .sc (.int .i64 11)]) rfl (by rfl : F 34 = some M.a34) (fun R RO RD RT E => ?_), trim_mod' mz5⟩
        have lo := E.run lo
        rw [hzc] at *
        simp [M.a34, E.eqs, ← hH0, ← hhp, e1, c1, n0, fldA, freshB, loadA, storeA, q1, k1, k2, w1, q2, lo, g2, g4, g5, q3, q4, k3, k4, k5, hcc, hct, hcs, hset]
      · rw [if_neg (show ¬ (rEnd l a3 b3 = 0 ∧ true = false) from fun h => absurd h.2 (by simp)), if_pos ce]
        rw [ce] at q3
        rw [cr] at q4
        refine ⟨_, callX (hh := trim h (h3.set h.length ⟨.var, cs⟩) [.agg cs, .sc (.int .i64 0)]) rfl (by rfl : F 34 = some M.a34) (fun R RO RD RT E => ?_), trim_mod' mk5⟩
        have lo := E.run lo
        rw [hzc] at *
        simp [M.a34, E.eqs, ← hH0, ← hhp, e1, c1, n0, fldA, freshB, loadA, storeA, q1, k1, k2, w1, q2, lo, g2, g4, g5, q3, q4, k3, k4, k5, hcc, hct, hcs, hset]
    · rw [if_neg (show ¬ (rEnd l a3 b3 = 0 ∧ rightC c3 = false) from fun h => ce h.1), if_neg ce]
      have ce' : ¬ ((rEnd l a3 b3 : Nat) : Int) = 0 := by omega
      refine ⟨_, callX (hh := trim h (h3.set h.length ⟨.var, Cm.zero.cells⟩) [.agg Cm.zero.cells, .sc (.int .i64 (rEnd l a3 b3 : Nat))]) rfl (by rfl : F 34 = some M.a34) (fun R RO RD RT E => ?_), trim_mod' mz5⟩
      have lo := E.run lo
      generalize rEnd l a3 b3 = e at *
      rw [hzc] at *
      simp [M.a34, E.eqs, ← hH0, ← hhp, e1, c1, n0, fldA, freshB, loadA, storeA, q1, k1, k2, w1, q2, lo, g2, g4, g5, q3, q4, ce, ce', k3, k4, k5, hcc, hct, hcs, hset]
end
end Go.Proofs.Ytoghoddofokekaa
end

section
set_option linter.unusedVariables false
set_option linter.unusedSimpArgs false
set_option maxRecDepth 100000
namespace Go.Proofs.Ytoghoddofokekaa
open Go.Abs

def sqd : Nat → ACode → ACode
  | 0, c => c
  | n + 1, .seq _ b => sqd n b
  | _ + 1, c => c
def sqh : ACode → ACode
  | .seq a _ => a
  | c => c
def cthen : ACode → ACode
  | .seq _ (.cond _ a _) => a
  | c => c
/-- what the document does for a kind -/
def inner : ACode := cthen (sqh (sqd 7 M.a35.body))

section
variable {R : ACode → Env → Heap → Option (AEx × Env × Heap)} {RO : List AOper → Env → Heap → Option (Env × Heap)} {RD : List (AOper × DM) → Env → Heap → Option (Env × Heap)} {RT : List (AOper × DM) → Env → Heap → Option (Env × Heap × List Heap × List Chk)}
variable {h : Heap} {i p : Nat} {x : SV} {l : List UInt8} {st : Cm × Nat × Nat} {e : Env} {v2 : TV}

theorem seqM {a b : ACode} {e1 : Env} {h1 : Heap} {r : Option (AEx × Env × Heap)} (E : Mach F O R RO RD RT) (hp : R a e h = some (.normal, e1, h1)) (hq : R b e1 h1 = r) : R (.seq a b) e h = r := by
  simp only [E.eqs, hp, hq]

/-- what stays in the slots -/
structure Sl (e : Env) (i p : Nat) (v2 : TV) (o : List UInt8) : Prop where
  s2 : e.get 2 = v2
  s4 : e.get 4 = [.sc (.ptr i 0 3)]
  s5 : e.get 5 = [.sc (.ptr p 0 10)]
  s6 : e.get 6 = [.sc (.str o)]

theorem fld1 (E : Mach F O R RO RD RT) (r : RC h i x l p st) {k : Int} (s : Sl e i p v2 (ofT k)) (s7 : e.get 7 = [.sc (.int .u64 18446744073709551615)]) :
    ∃ e' h', R (sqh (sqd 1 inner)) e h = some (.normal, e', h') ∧ Sl e' i p v2 (ofT k) ∧ e'.get 7 = [.sc (.int .u64 18446744073709551615)] ∧ RC h' i x l p (if fl k 1 then rField l 1 st else st) ∧ Mod (fun j => j = i ∨ j = p) h h' := by
  obtain ⟨g2, g4, g5, g6⟩ := s
  obtain ⟨c, a, bad⟩ := st
  have z1 : ((72057594037927935 : Nat) : Int) = 72057594037927935 := rfl
  have rd := r.rd
  simp only at rd
  have hl : (ofT k).length < 1000 := by have := ofT_len k; omega
  have q1 := spec56 h (w := w_seq) hl
  rw [has_seq] at q1
  generalize ofT k = o at *
  cases hf : fl k 1
  · rw [hf] at q1
    refine ⟨[(2, v2), (4, [.sc (.ptr i 0 3)]), (5, [.sc (.ptr p 0 10)]), (6, [.sc (.str o)]), (7, [.sc (.int .u64 18446744073709551615)]), (30, [.sc (.bool false)])], h, ?_, ⟨rfl, rfl, rfl, rfl⟩, rfl, r, Mod.refl _ _⟩
    simp [inner, M.a35, sqd, sqh, cthen, E.eqs, g2, g4, g5, g6, s7, q1]
  · rw [hf] at q1
    have q2 := spec79 rd (most := 72057594037927935) (by omega)
    obtain ⟨_, h3, h4, _⟩ := rNum_lt l a bad 72057594037927935
    have s := rd.go (h3 rd.le) (h4 rd.small)
    unfold rField
    simp only
    generalize rNum l a bad 72057594037927935 = D at *
    obtain ⟨n, a', bad'⟩ := D
    simp only at q2 s ⊢
    rw [z1] at q2
    have k1 : (setR h i x a' bad')[p]? = some ⟨.var, c.cells⟩ := s.mod.get r.at_ r.ne
    obtain ⟨t1, t2⟩ := r.put s { c with q := n }
    refine ⟨[(2, v2), (4, [.sc (.ptr i 0 3)]), (5, [.sc (.ptr p 0 10)]), (6, [.sc (.str o)]), (7, [.sc (.int .u64 18446744073709551615)])], (setR h i x a' bad').set p ⟨.var, ({ c with q := n } : Cm).cells⟩, ?_, ⟨rfl, rfl, rfl, rfl⟩, rfl, t1, t2⟩
    clear t1 t2
    generalize setR h i x a' bad' = g at *
    simp [inner, M.a35, sqd, sqh, cthen, E.eqs, g2, g4, g5, g6, s7, q1, q2, fldA, freshB, storeA, k1, Cm.cells]
-- printed by genE9.py

theorem fld2 (E : Mach F O R RO RD RT) (r : RC h i x l p st) {k : Int} (s : Sl e i p v2 (ofT k)) (s7 : e.get 7 = [.sc (.int .u64 18446744073709551615)]) :
    ∃ e' h', R (sqh (sqd 2 inner)) e h = some (.normal, e', h') ∧ Sl e' i p v2 (ofT k) ∧ e'.get 7 = [.sc (.int .u64 18446744073709551615)] ∧ RC h' i x l p (if fl k 2 then rField l 2 st else st) ∧ Mod (fun j => j = i ∨ j = p) h h' := by
  obtain ⟨g2, g4, g5, g6⟩ := s
  obtain ⟨c, a, bad⟩ := st
  have z2 : ((18446744073709551615 : Nat) : Int) = 18446744073709551615 := rfl
  have rd := r.rd
  simp only at rd
  have hl : (ofT k).length < 1000 := by have := ofT_len k; omega
  have q1 := spec56 h (w := w_a) hl
  rw [has_a] at q1
  generalize ofT k = o at *
  cases hf : fl k 2
  · rw [hf] at q1
    refine ⟨[(2, v2), (4, [.sc (.ptr i 0 3)]), (5, [.sc (.ptr p 0 10)]), (6, [.sc (.str o)]), (7, [.sc (.int .u64 18446744073709551615)]), (35, [.sc (.bool false)])], h, ?_, ⟨rfl, rfl, rfl, rfl⟩, rfl, r, Mod.refl _ _⟩
    simp [inner, M.a35, sqd, sqh, cthen, E.eqs, g2, g4, g5, g6, s7, q1]
  · rw [hf] at q1
    have q2 := spec79 rd (most := 18446744073709551615) (by omega)
    obtain ⟨_, h3, h4, _⟩ := rNum_lt l a bad 18446744073709551615
    have s := rd.go (h3 rd.le) (h4 rd.small)
    unfold rField
    simp only
    generalize rNum l a bad 18446744073709551615 = D at *
    obtain ⟨n, a', bad'⟩ := D
    simp only at q2 s ⊢
    rw [z2] at q2
    generalize setR h i x a' bad' = g at *
    have k1 : g[p]? = some ⟨.var, c.cells⟩ := s.mod.get r.at_ r.ne
    obtain ⟨t1, t2⟩ := r.put s { c with a := n }
    refine ⟨[(2, v2), (4, [.sc (.ptr i 0 3)]), (5, [.sc (.ptr p 0 10)]), (6, [.sc (.str o)]), (7, [.sc (.int .u64 18446744073709551615)])], g.set p ⟨.var, ({ c with a := n } : Cm).cells⟩, ?_, ⟨rfl, rfl, rfl, rfl⟩, rfl, t1, t2⟩
    clear t1 t2
    simp [inner, M.a35, sqd, sqh, cthen, E.eqs, g2, g4, g5, g6, s7, q1, q2, fldA, freshB, storeA, k1, Cm.cells]

theorem fld3 (E : Mach F O R RO RD RT) (r : RC h i x l p st) {k : Int} (s : Sl e i p v2 (ofT k)) (s7 : e.get 7 = [.sc (.int .u64 18446744073709551615)]) :
    ∃ e' h', R (sqh (sqd 3 inner)) e h = some (.normal, e', h') ∧ Sl e' i p v2 (ofT k) ∧ RC h' i x l p (if fl k 3 then rField l 3 st else st) ∧ Mod (fun j => j = i ∨ j = p) h h' := by
  obtain ⟨g2, g4, g5, g6⟩ := s
  obtain ⟨c, a, bad⟩ := st
  have z2 : ((18446744073709551615 : Nat) : Int) = 18446744073709551615 := rfl
  have rd := r.rd
  simp only at rd
  have hl : (ofT k).length < 1000 := by have := ofT_len k; omega
  have q1 := spec56 h (w := w_b) hl
  rw [has_b] at q1
  generalize ofT k = o at *
  cases hf : fl k 3
  · rw [hf] at q1
    refine ⟨[(2, v2), (4, [.sc (.ptr i 0 3)]), (5, [.sc (.ptr p 0 10)]), (6, [.sc (.str o)]), (7, [.sc (.int .u64 18446744073709551615)]), (41, [.sc (.bool false)])], h, ?_, ⟨rfl, rfl, rfl, rfl⟩, r, Mod.refl _ _⟩
    simp [inner, M.a35, sqd, sqh, cthen, E.eqs, g2, g4, g5, g6, s7, q1]
  · rw [hf] at q1
    have q2 := spec79 rd (most := 18446744073709551615) (by omega)
    obtain ⟨_, h3, h4, _⟩ := rNum_lt l a bad 18446744073709551615
    have s := rd.go (h3 rd.le) (h4 rd.small)
    unfold rField
    simp only
    generalize rNum l a bad 18446744073709551615 = D at *
    obtain ⟨n, a', bad'⟩ := D
    simp only at q2 s ⊢
    rw [z2] at q2
    generalize setR h i x a' bad' = g at *
    have k1 : g[p]? = some ⟨.var, c.cells⟩ := s.mod.get r.at_ r.ne
    obtain ⟨t1, t2⟩ := r.put s { c with b := n }
    refine ⟨[(2, v2), (4, [.sc (.ptr i 0 3)]), (5, [.sc (.ptr p 0 10)]), (6, [.sc (.str o)])], g.set p ⟨.var, ({ c with b := n } : Cm).cells⟩, ?_, ⟨rfl, rfl, rfl, rfl⟩, t1, t2⟩
    clear t1 t2
    simp [inner, M.a35, sqd, sqh, cthen, E.eqs, g2, g4, g5, g6, s7, q1, q2, fldA, freshB, storeA, k1, Cm.cells]

theorem fld4 (E : Mach F O R RO RD RT) (r : RC h i x l p st) {k : Int} (s : Sl e i p v2 (ofT k)) :
    ∃ e' h', R (sqh (sqd 4 inner)) e h = some (.normal, e', h') ∧ Sl e' i p v2 (ofT k) ∧ RC h' i x l p (if fl k 4 then rField l 4 st else st) ∧ Mod (fun j => j = i ∨ j = p) h h' := by
  obtain ⟨g2, g4, g5, g6⟩ := s
  obtain ⟨c, a, bad⟩ := st
  have z2 : ((18446744073709551615 : Nat) : Int) = 18446744073709551615 := rfl
  have rd := r.rd
  simp only at rd
  have hl : (ofT k).length < 1000 := by have := ofT_len k; omega
  have q1 := spec56 h (w := w_amount) hl
  rw [has_amount] at q1
  generalize ofT k = o at *
  cases hf : fl k 4
  · rw [hf] at q1
    refine ⟨[(2, v2), (4, [.sc (.ptr i 0 3)]), (5, [.sc (.ptr p 0 10)]), (6, [.sc (.str o)]), (47, [.sc (.bool false)])], h, ?_, ⟨rfl, rfl, rfl, rfl⟩, r, Mod.refl _ _⟩
    simp [inner, M.a35, sqd, sqh, cthen, E.eqs, g2, g4, g5, g6, q1]
  · rw [hf] at q1
    obtain ⟨g, q2, s⟩ := spec80 rd
    unfold rField
    simp only
    generalize rDec l a bad = D at *
    obtain ⟨⟨u, n3, n4⟩, a', bad'⟩ := D
    simp only at q2 s ⊢
    have k1 : g[p]? = some ⟨.var, c.cells⟩ := s.mod.get r.at_ r.ne
    obtain ⟨t1, t2⟩ := r.put s { c with hi := u, lo := n3, sc := n4 }
    refine ⟨[(2, v2), (4, [.sc (.ptr i 0 3)]), (5, [.sc (.ptr p 0 10)]), (6, [.sc (.str o)])], g.set p ⟨.var, ({ c with hi := u, lo := n3, sc := n4 } : Cm).cells⟩, ?_, ⟨rfl, rfl, rfl, rfl⟩, t1, t2⟩
    clear t1 t2
    simp [inner, M.a35, sqd, sqh, cthen, E.eqs, g2, g4, g5, g6, q1, q2, fldA, freshB, storeA, k1, Cm.cells]

theorem fld5 (E : Mach F O R RO RD RT) (r : RC h i x l p st) {k : Int} (s : Sl e i p v2 (ofT k)) :
    ∃ e' h', R (sqh (sqd 5 inner)) e h = some (.normal, e', h') ∧ Sl e' i p v2 (ofT k) ∧ RC h' i x l p (if fl k 5 then rField l 5 st else st) ∧ Mod (fun j => j = i ∨ j = p) h h' := by
  obtain ⟨g2, g4, g5, g6⟩ := s
  obtain ⟨c, a, bad⟩ := st
  have z2 : ((18446744073709551615 : Nat) : Int) = 18446744073709551615 := rfl
  have rd := r.rd
  simp only at rd
  have hl : (ofT k).length < 1000 := by have := ofT_len k; omega
  have q1 := spec56 h (w := w_x) hl
  rw [has_x] at q1
  generalize ofT k = o at *
  cases hf : fl k 5
  · rw [hf] at q1
    refine ⟨[(2, v2), (4, [.sc (.ptr i 0 3)]), (5, [.sc (.ptr p 0 10)]), (6, [.sc (.str o)]), (52, [.sc (.bool false)])], h, ?_, ⟨rfl, rfl, rfl, rfl⟩, r, Mod.refl _ _⟩
    simp [inner, M.a35, sqd, sqh, cthen, E.eqs, g2, g4, g5, g6, q1]
  · rw [hf] at q1
    obtain ⟨g, q2, s⟩ := spec85 rd
    unfold rField
    simp only
    generalize rName l a bad = D at *
    obtain ⟨n, a', bad'⟩ := D
    simp only at q2 s ⊢
    have k1 : g[p]? = some ⟨.var, c.cells⟩ := s.mod.get r.at_ r.ne
    obtain ⟨t1, t2⟩ := r.put s { c with x := n }
    refine ⟨[(2, v2), (4, [.sc (.ptr i 0 3)]), (5, [.sc (.ptr p 0 10)]), (6, [.sc (.str o)])], g.set p ⟨.var, ({ c with x := n } : Cm).cells⟩, ?_, ⟨rfl, rfl, rfl, rfl⟩, t1, t2⟩
    clear t1 t2
    simp [inner, M.a35, sqd, sqh, cthen, E.eqs, g2, g4, g5, g6, q1, q2, fldA, freshB, storeA, k1, Cm.cells]

theorem fld6 (E : Mach F O R RO RD RT) (r : RC h i x l p st) {k : Int} (s : Sl e i p v2 (ofT k)) :
    ∃ e' h', R (sqd 6 inner) e h = some (.normal, e', h') ∧ (e'.get 2 = v2 ∧ e'.get 4 = [.sc (.ptr i 0 3)] ∧ e'.get 5 = [.sc (.ptr p 0 10)]) ∧ RC h' i x l p (if fl k 6 then rField l 6 st else st) ∧ Mod (fun j => j = i ∨ j = p) h h' := by
  obtain ⟨g2, g4, g5, g6⟩ := s
  obtain ⟨c, a, bad⟩ := st
  have z2 : ((18446744073709551615 : Nat) : Int) = 18446744073709551615 := rfl
  have rd := r.rd
  simp only at rd
  have hl : (ofT k).length < 1000 := by have := ofT_len k; omega
  have q1 := spec56 h (w := w_y) hl
  rw [has_y] at q1
  generalize ofT k = o at *
  cases hf : fl k 6
  · rw [hf] at q1
    refine ⟨[(2, v2), (4, [.sc (.ptr i 0 3)]), (5, [.sc (.ptr p 0 10)]), (57, [.sc (.bool false)])], h, ?_, ⟨rfl, rfl, rfl⟩, r, Mod.refl _ _⟩
    simp [inner, M.a35, sqd, sqh, cthen, E.eqs, g2, g4, g5, g6, q1]
  · rw [hf] at q1
    obtain ⟨g, q2, s⟩ := spec85 rd
    unfold rField
    simp only
    generalize rName l a bad = D at *
    obtain ⟨n, a', bad'⟩ := D
    simp only at q2 s ⊢
    have k1 : g[p]? = some ⟨.var, c.cells⟩ := s.mod.get r.at_ r.ne
    obtain ⟨t1, t2⟩ := r.put s { c with y := n }
    refine ⟨[(2, v2), (4, [.sc (.ptr i 0 3)]), (5, [.sc (.ptr p 0 10)])], g.set p ⟨.var, ({ c with y := n } : Cm).cells⟩, ?_, ⟨rfl, rfl, rfl⟩, t1, t2⟩
    clear t1 t2
    simp [inner, M.a35, sqd, sqh, cthen, E.eqs, g2, g4, g5, g6, q1, q2, fldA, freshB, storeA, k1, Cm.cells]

theorem fld0 (E : Mach F O R RO RD RT) (r : RC h i x l p st) {o : List UInt8} (s : Sl e i p v2 o) (s7 : e.get 7 = [.sc (.int .u64 18446744073709551615)]) :
    ∃ e' h', R (sqh inner) e h = some (.normal, e', h') ∧ Sl e' i p v2 o ∧ e'.get 7 = [.sc (.int .u64 18446744073709551615)] ∧ RC h' i x l p (rField l 0 st) ∧ Mod (fun j => j = i ∨ j = p) h h' := by
  obtain ⟨g2, g4, g5, g6⟩ := s
  obtain ⟨c, a, bad⟩ := st
  have z1 : ((72057594037927935 : Nat) : Int) = 72057594037927935 := rfl
  have rd := r.rd
  simp only at rd
  have q2 := spec79 rd (most := 72057594037927935) (by omega)
  obtain ⟨_, h3, h4, _⟩ := rNum_lt l a bad 72057594037927935
  have s := rd.go (h3 rd.le) (h4 rd.small)
  unfold rField
  simp only
  generalize rNum l a bad 72057594037927935 = D at *
  obtain ⟨n, a', bad'⟩ := D
  simp only at q2 s ⊢
  rw [z1] at q2
  have k1 : (setR h i x a' bad')[p]? = some ⟨.var, c.cells⟩ := s.mod.get r.at_ r.ne
  obtain ⟨t1, t2⟩ := r.put s { c with s := n }
  refine ⟨[(2, v2), (4, [.sc (.ptr i 0 3)]), (5, [.sc (.ptr p 0 10)]), (6, [.sc (.str o)]), (7, [.sc (.int .u64 18446744073709551615)])], (setR h i x a' bad').set p ⟨.var, ({ c with s := n } : Cm).cells⟩, ?_, ⟨rfl, rfl, rfl, rfl⟩, rfl, t1, t2⟩
  clear t1 t2
  generalize setR h i x a' bad' = g at *
  simp [inner, M.a35, sqd, sqh, cthen, E.eqs, g2, g4, g5, g6, s7, q2, fldA, freshB, storeA, k1, Cm.cells]

theorem inner_run (E : Mach F O R RO RD RT) (r : RC h i x l p st) {k : Int} (s : Sl e i p v2 (ofT k)) (s7 : e.get 7 = [.sc (.int .u64 18446744073709551615)]) (hk : fl k 0 = true) :
    ∃ e' h', R inner e h = some (.normal, e', h') ∧ (e'.get 2 = v2 ∧ e'.get 4 = [.sc (.ptr i 0 3)] ∧ e'.get 5 = [.sc (.ptr p 0 10)]) ∧ RC h' i x l p (rFrom l k 7 0 st) ∧ Mod (fun j => j = i ∨ j = p) h h' := by
  obtain ⟨e0, h0, q0, s0, t0, r0, m0⟩ := fld0 E r s s7
  obtain ⟨e1, h1, q1, s1, t1, r1, m1⟩ := fld1 E r0 s0 t0
  obtain ⟨e2, h2, q2, s2, t2, r2, m2⟩ := fld2 E r1 s1 t1
  obtain ⟨e3, h3, q3, s3, r3, m3⟩ := fld3 E r2 s2 t2
  obtain ⟨e4, h4, q4, s4, r4, m4⟩ := fld4 E r3 s3
  obtain ⟨e5, h5, q5, s5, r5, m5⟩ := fld5 E r4 s4
  obtain ⟨e6, h6, q6, s6, r6, m6⟩ := fld6 E r5 s5
  refine ⟨e6, h6, seqM E q0 (seqM E q1 (seqM E q2 (seqM E q3 (seqM E q4 (seqM E q5 q6))))), s6, ?_, ?_⟩
  · simp only [rFrom, hk, if_true]
    exact r6
  · exact ((((((m0.trans m1 fun _ _ h => h).trans m2 fun _ _ h => h).trans m3 fun _ _ h => h).trans m4 fun _ _ h => h).trans m5 fun _ _ h => h).trans m6 fun _ _ h => h)
end
end Go.Proofs.Ytoghoddofokekaa
end

section
set_option linter.unusedVariables false
set_option linter.unusedSimpArgs false
set_option maxRecDepth 100000
namespace Go.Proofs.Ytoghoddofokekaa
open Go.Abs

theorem rByte_most (l : List UInt8) (a bad most : Nat) : (rByte l a bad most).1 ≤ most := by
  unfold rByte
  split
  · simp
  · split
    · simp
    · split <;> simp <;> omega
theorem rFrom_zero (l : List UInt8) : ∀ (m j : Nat) (st : Cm × Nat × Nat), rFrom l 0 m j st = st
  | 0, j, st => rfl
  | m + 1, j, st => by
    have : fl 0 j = false := by unfold fl; rw [mask_none (Or.inl (by decide))]; simp
    rw [rFrom, this]
    exact rFrom_zero l m (j + 1) st

section
variable {R : ACode → Env → Heap → Option (AEx × Env × Heap)} {RO : List AOper → Env → Heap → Option (Env × Heap)} {RD : List (AOper × DM) → Env → Heap → Option (Env × Heap)} {RT : List (AOper × DM) → Env → Heap → Option (Env × Heap × List Heap × List Chk)}
theorem condT {n : Nat} {a b : ACode} {e : Env} {h : Heap} {r : Option (AEx × Env × Heap)} (E : Mach F O R RO RD RT) (hc : e.get n = [.sc (.bool true)]) (hq : R a e h = r) : R (.cond (.s n) a b) e h = r := by
  simp [E.eqs, hc, hq]
theorem condF {n : Nat} {a b : ACode} {e : Env} {h : Heap} {r : Option (AEx × Env × Heap)} (E : Mach F O R RO RD RT) (hc : e.get n = [.sc (.bool false)]) (hq : R b e h = r) : R (.cond (.s n) a b) e h = r := by
  simp [E.eqs, hc, hq]
theorem skipM {e : Env} {h : Heap} (E : Mach F O R RO RD RT) : R .skip e h = some (.normal, e, h) := by simp [E.eqs]
end

section
variable {h : Heap} {y : SV} {l : List UInt8}

theorem finA_ret {h h' : Heap} {res : List ARes} {e : Env} {o : Option (AEx × Env × Heap)} {r : TV} (ho : o = some (.ret, e, h')) (hr : resA e h' res = some r) : finA h res o = some (r, trim h h' r) := by
  rw [ho]
  simp only [finA, hr]

set_option maxHeartbeats 2000000 in
theorem spec35 (hy : Row h y 1 l.length (Go.Abs.bytes l)) (hl : l.length ≤ 140737488353280) : ∃ h', call 35 [[.sc y]] h = some ([.agg (rCmd l).1.cells, .sc (.int .i64 (rCmd l).2)], h') ∧ Mod (fun _ => False) h h' := by
  have hzc : Cm.zero.cells = [.int .i64 0, .int .u64 0, .int .u64 0, .int .u64 0, .int .u64 0, .int .i64 0, .int .u64 0, .int .i64 0, .str [], .str []] := rfl
  obtain ⟨H0, hH0⟩ : ∃ H0 : Heap, H0 = h ++ [⟨.var, Cm.zero.cells⟩] := ⟨_, rfl⟩
  have mH0 : Mod (fun _ => False) h H0 := by rw [hH0]; exact Mod.app _ _ _
  have bH0 : H0[h.length]? = some ⟨.var, Cm.zero.cells⟩ := by rw [hH0]; simp
  have lH0 : H0.length = h.length + 1 := by rw [hH0]; simp
  have hy0 := hy.mod mH0 fun _ _ h => h
  have e1 := lenA_row hy0
  unfold rCmd
  by_cases hbig : 128 < l.length
  · rw [if_pos hbig]
    have c1 : (128 : Int) < l.length := by omega
    have kk : ∀ B : Blk, (H0.set h.length B)[h.length]? = some B := fun B => get_set_same bH0
    have mm : Mod (fun _ => False) h (H0.set h.length ⟨.var, Cm.zero.cells⟩) := mH0.trans (Mod.set _ _ rfl : Mod (fun j => j = h.length) H0 (H0.set h.length ⟨.var, Cm.zero.cells⟩)) fun j hj e => by omega
    refine ⟨_, callX (hh := trim h (H0.set h.length ⟨.var, Cm.zero.cells⟩) [.agg Cm.zero.cells, .sc (.int .i64 12)]) rfl (by rfl : F 35 = some M.a35) (fun R RO RD RT E => ?_), trim_mod' mm⟩
    rw [hzc] at *
    simp [M.a35, E.eqs, ← hH0, e1, c1, bH0, kk, freshB, loadA, storeA]
  · rw [if_neg hbig]
    have c1 : ¬ (128 : Int) < l.length := by omega
    obtain ⟨i, hi⟩ : ∃ i, i = H0.length := ⟨_, rfl⟩
    obtain ⟨h0, hh0⟩ : ∃ h0 : Heap, h0 = H0 ++ [⟨.var, [y, .int .i64 0, .int .i64 0]⟩] := ⟨_, rfl⟩
    have m0 : Mod (fun _ => False) H0 h0 := by rw [hh0]; exact Mod.app _ _ _
    have lx := hy0.lt
    have r0 : Rd h0 i y l 0 0 := ⟨by rw [hh0, hi]; simp, hy0.mod m0 fun _ _ h => h, fun hb => by have := lx i hb; omega, hl, by omega, by omega⟩
    have hlt := r0.lt
    obtain ⟨hp, hhp⟩ : ∃ hp : Heap, hp = h0 ++ [⟨.var, Cm.zero.cells⟩] := ⟨_, rfl⟩
    have mp : Mod (fun _ => False) h0 hp := by rw [hhp]; exact Mod.app _ _ _
    have rp : RC hp i y l h0.length (Cm.zero, 0, 0) := ⟨by rw [hhp]; exact r0.app _, by rw [hhp]; simp, by omega, fun hb => by have := lx _ hb; omega⟩
    have bp : hp[h.length]? = some ⟨.var, Cm.zero.cells⟩ := mp.get (m0.get bH0 fun h => h) fun h => h
    have q1 := spec78 rp.rd (most := 11) (by omega)
    simp only at q1
    obtain ⟨x1, x2, hb1⟩ := rByte_lt l 0 0 11
    have hm1 := rByte_most l 0 0 11
    have x1 := x1 (by omega)
    have x2 := x2 (by omega)
    have s1 := rp.rd.go x1 x2
    generalize rByte l 0 0 11 = D1 at *
    obtain ⟨n1, a1, b1⟩ := D1
    simp only at q1 x1 x2 hb1 s1 hm1 ⊢
    have z1 : ((11 : Nat) : Int) = 11 := rfl
    rw [z1] at q1
    have w1 := wi64n hb1
    have k1 : (setR hp i y a1 b1)[h0.length]? = some ⟨.var, Cm.zero.cells⟩ := s1.mod.get rp.at_ rp.ne
    obtain ⟨rk, mk⟩ := rp.put s1 { Cm.zero with k := n1 }
    have q2 := fun h => spec84 h (n1 : Int)
    generalize setR hp i y a1 b1 = g1 at *
    have hcz : ({ Cm.zero with k := (n1 : Int) } : Cm).cells = [.int .i64 n1, .int .u64 0, .int .u64 0, .int .u64 0, .int .u64 0, .int .i64 0, .int .u64 0, .int .i64 0, .str [], .str []] := rfl
    have k2 : ∀ B : Blk, (g1.set h0.length B)[h0.length]? = some B := fun B => get_set_same k1
    obtain ⟨hk, hhk⟩ : ∃ hk : Heap, hk = g1.set h0.length ⟨.var, ({ Cm.zero with k := (n1 : Int) } : Cm).cells⟩ := ⟨_, rfl⟩
    rw [← hhk] at rk mk
    have k3 := rk.at_
    simp only at k3
    have mid : ∃ e' h3, runE F O (sqh (sqd 7 M.a35.body)) [(2, [.sc (.ptr h.length 0 10)]), (4, [.sc (.ptr i 0 3)]), (5, [.sc (.ptr h0.length 0 10)]), (6, [.sc (.str (ofT n1))]), (7, [.sc (.int .u64 18446744073709551615)])] hk = some (.normal, e', h3) ∧ (e'.get 2 = [.sc (.ptr h.length 0 10)] ∧ e'.get 4 = [.sc (.ptr i 0 3)] ∧ e'.get 5 = [.sc (.ptr h0.length 0 10)]) ∧ RC h3 i y l h0.length (rFrom l n1 7 0 ({ Cm.zero with k := (n1 : Int) }, a1, b1)) ∧ Mod (fun j => j = i ∨ j = h0.length) hk h3 := by
      rw [hcz] at k3
      by_cases hn : n1 = 0
      · subst hn
        have hz : rFrom l ((0 : Nat) : Int) 7 0 ({ Cm.zero with k := ((0 : Nat) : Int) }, a1, b1) = ({ Cm.zero with k := ((0 : Nat) : Int) }, a1, b1) := rFrom_zero l 7 0 _
        refine ⟨[(2, [.sc (.ptr h.length 0 10)]), (4, [.sc (.ptr i 0 3)]), (5, [.sc (.ptr h0.length 0 10)]), (6, [.sc (.str (ofT ((0 : Nat) : Int)))]), (7, [.sc (.int .u64 18446744073709551615)]), (25, [.sc (.bool false)])], hk, runM fun R RO RD RT E => ?_, ⟨rfl, rfl, rfl⟩, by rw [hz]; exact rk, Mod.refl _ _⟩
        simp [M.a35, sqd, sqh, E.eqs, fldA, freshB, loadA, k3]
      · have hf : fl n1 0 = true := fl0 (by
          rcases (by omega : n1 = 1 ∨ n1 = 2 ∨ n1 = 3 ∨ n1 = 4 ∨ n1 = 5 ∨ n1 = 6 ∨ n1 = 7 ∨ n1 = 8 ∨ n1 = 9 ∨ n1 = 10 ∨ n1 = 11) with rfl | rfl | rfl | rfl | rfl | rfl | rfl | rfl | rfl | rfl | rfl <;> decide)
        obtain ⟨e', h3, q3, g3, r3, m3⟩ := inner_run (mach F O) rk (v2 := [.sc (.ptr h.length 0 10)]) (k := (n1 : Int)) (e := [(2, [.sc (.ptr h.length 0 10)]), (4, [.sc (.ptr i 0 3)]), (5, [.sc (.ptr h0.length 0 10)]), (6, [.sc (.str (ofT n1))]), (7, [.sc (.int .u64 18446744073709551615)]), (25, [.sc (.bool true)])]) ⟨rfl, rfl, rfl, rfl⟩ rfl hf
        refine ⟨e', h3, seqM (mach F O) ?_ (condT (mach F O) rfl q3), g3, r3, m3⟩
        have hpos : 0 < n1 := by omega
        refine runM fun R RO RD RT E => ?_
        generalize ofT n1 = o at *
        simp [E.eqs, fldA, freshB, loadA, k3, hpos]
    obtain ⟨e', h3, run, ⟨g2, g4, g5⟩, r3, m3⟩ := mid
    have ln := rFrom_len l n1 7 0 ({ Cm.zero with k := (n1 : Int) }, a1, b1) (by simp [Cm.zero]) (by simp [Cm.zero])
    generalize rFrom l n1 7 0 ({ Cm.zero with k := (n1 : Int) }, a1, b1) = st at *
    obtain ⟨c3, a3, b3⟩ := st
    simp only at ln r3 ⊢
    have q3 := spec81 r3.rd
    simp only at q3
    have q4 := spec86 h3 c3
    have k6 := r3.at_
    simp only at k6
    have m4 : Mod (fun j => j = i ∨ j = h0.length) hp h3 := mk.trans m3 fun _ _ h => h
    have k4 : h3[h.length]? = some ⟨.var, Cm.zero.cells⟩ := m4.get bp (by omega)
    have k5 : ∀ B : Blk, (h3.set h.length B)[h.length]? = some B := fun B => get_set_same k4
    have m5 : ∀ c : Cm, Mod (fun _ => False) h (h3.set h.length ⟨.var, c.cells⟩) := fun c => by
      have t1 : Mod (fun j => j = h.length) h3 (h3.set h.length ⟨.var, c.cells⟩) := Mod.set _ _ rfl
      have l1 := m0.1
      have t2 : Mod (fun j => h.length ≤ j) h hp := ((mH0.mono fun _ _ h => h.elim).trans (m0.mono fun _ _ h => h.elim) fun _ _ h => h).trans (mp.mono fun _ _ h => h.elim) fun _ _ h => h
      have t3 : Mod (fun j => h.length ≤ j) h h3 := t2.trans (m4.mono fun j _ e => by rcases e with e | e <;> omega) fun _ _ h => h
      exact Mod.old (t3.trans (t1.mono fun j _ e => by omega) fun _ _ h => h)
    have hcc : c3.cells.length = 10 := rfl
    have hct : c3.cells.take 10 = c3.cells := rfl
    have mk5 := m5 c3
    have mz5 := m5 Cm.zero
    have hset : setCells Cm.zero.cells 0 c3.cells = c3.cells := rfl
    -- the head, and what is left
    have head : ∀ (R : ACode → Env → Heap → Option (AEx × Env × Heap)) (RO : List AOper → Env → Heap → Option (Env × Heap)) (RD : List (AOper × DM) → Env → Heap → Option (Env × Heap)) (RT : List (AOper × DM) → Env → Heap → Option (Env × Heap × List Heap × List Chk)) (r : Option (AEx × Env × Heap)), Mach F O R RO RD RT → R (sqd 8 M.a35.body) e' h3 = r → R M.a35.body (envFrom 0 [[.sc y]]) h = r := fun R RO RD RT r E hr => by
      have run := E.run run
      refine seqM E (e1 := [(0, [.sc y]), (2, [.sc (.ptr h.length 0 10)])]) (h1 := H0) ?_ (seqM E (e1 := [(0, [.sc y]), (2, [.sc (.ptr h.length 0 10)]), (11, [.sc (.bool false)])]) (h1 := H0) ?_ (seqM E (e1 := [(2, [.sc (.ptr h.length 0 10)]), (4, [.sc (.ptr i 0 3)])]) (h1 := h0) ?_ (seqM E (e1 := [(2, [.sc (.ptr h.length 0 10)]), (4, [.sc (.ptr i 0 3)]), (5, [.sc (.ptr h0.length 0 10)])]) (h1 := hp) ?_ (seqM E (e1 := [(2, [.sc (.ptr h.length 0 10)]), (4, [.sc (.ptr i 0 3)]), (5, [.sc (.ptr h0.length 0 10)])]) (h1 := hk) ?_ (seqM E (e1 := [(2, [.sc (.ptr h.length 0 10)]), (4, [.sc (.ptr i 0 3)]), (5, [.sc (.ptr h0.length 0 10)]), (6, [.sc (.str (ofT n1))])]) (h1 := hk) ?_ (seqM E (e1 := [(2, [.sc (.ptr h.length 0 10)]), (4, [.sc (.ptr i 0 3)]), (5, [.sc (.ptr h0.length 0 10)]), (6, [.sc (.str (ofT n1))]), (7, [.sc (.int .u64 18446744073709551615)])]) (h1 := hk) ?_ (seqM E run hr)))))))
      · rw [hzc] at hH0
        simp [E.eqs, ← hH0]
      · simp [E.eqs, e1, c1]
      · simp [E.eqs, ← hi, ← hh0]
      · rw [hzc] at hhp
        simp [E.eqs, ← hhp]
      · rw [hzc] at k1
        rw [hcz] at hhk
        simp [E.eqs, q1, w1, fldA, freshB, storeA, k1, ← hhk]
      · rw [hcz] at k3
        simp [E.eqs, fldA, freshB, loadA, k3, q2]
      · simp [E.eqs]
    clear r0 rp s1 rk mk r3 m3 m4 m5 mp m0 run
    generalize hcs : c3.cells = cs at *
    by_cases ce : rEnd l a3 b3 = 0
    · cases cr : rightC c3
      · rw [if_pos (show rEnd l a3 b3 = 0 ∧ false = false from ⟨ce, rfl⟩), if_neg (show ¬ (11 : Nat) = 0 by omega)]
        rw [ce] at q3
        rw [cr] at q4
        refine ⟨_, callX (hh := trim h (h3.set h.length ⟨.var, Cm.zero.cells⟩) [.agg Cm.zero.cells, .sc (.int .i64 11)]) rfl (by rfl : F 35 = some M.a35) (fun R RO RD RT E => ?_), trim_mod' mz5⟩
        rw [head R RO RD RT _ E rfl]
        rw [hzc] at *
        simp [M.a35, sqd, E.eqs, freshB, loadA, storeA, g2, g4, g5, q3, q4, k6, k4, k5, hcc, hct, hcs, hset]
      · rw [if_neg (show ¬ (rEnd l a3 b3 = 0 ∧ true = false) from fun h => absurd h.2 (by simp)), if_pos ce]
        rw [ce] at q3
        rw [cr] at q4
        refine ⟨_, callX (hh := trim h (h3.set h.length ⟨.var, cs⟩) [.agg cs, .sc (.int .i64 0)]) rfl (by rfl : F 35 = some M.a35) (fun R RO RD RT E => ?_), trim_mod' mk5⟩
        rw [head R RO RD RT _ E rfl]
        rw [hzc] at *
        simp [M.a35, sqd, E.eqs, freshB, loadA, storeA, g2, g4, g5, q3, q4, k6, k4, k5, hcc, hct, hcs, hset]
    · rw [if_neg (show ¬ (rEnd l a3 b3 = 0 ∧ rightC c3 = false) from fun h => ce h.1), if_neg ce]
      have ce' : ¬ ((rEnd l a3 b3 : Nat) : Int) = 0 := by omega
      refine ⟨_, callX (hh := trim h (h3.set h.length ⟨.var, Cm.zero.cells⟩) [.agg Cm.zero.cells, .sc (.int .i64 (rEnd l a3 b3 : Nat))]) rfl (by rfl : F 35 = some M.a35) (fun R RO RD RT E => ?_), trim_mod' mz5⟩
      rw [head R RO RD RT _ E rfl]
      generalize rEnd l a3 b3 = e at *
      rw [hzc] at *
      simp [M.a35, sqd, E.eqs, freshB, loadA, storeA, g2, g4, g5, q3, q4, ce, ce', k6, k4, k5, hcc, hct, hcs, hset]
end
end Go.Proofs.Ytoghoddofokekaa
end

