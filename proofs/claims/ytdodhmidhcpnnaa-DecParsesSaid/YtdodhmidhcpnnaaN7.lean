/- Chapter 2, the document's: products. -/
import Derived.Test.YtdodhmidhcpnnaaN4
set_option linter.unusedVariables false
set_option linter.unusedSimpArgs false
set_option maxRecDepth 100000
namespace Go.Proofs.Ytdodhmidhcpnnaa
open Go.Abs

theorem val_set : ∀ (l : List Nat) (j d x : Nat), l[j]? = some x → val (l.set j d) + 4294967296 ^ j * x = val l + 4294967296 ^ j * d
  | [], j, d, x, h => by simp at h
  | y :: l, 0, d, x, h => by
    simp at h
    subst h
    simp only [List.set_cons_zero, val, Nat.pow_zero]
    omega
  | y :: l, j + 1, d, x, h => by
    have := val_set l j d x (by simpa using h)
    simp only [List.set_cons_succ, val]
    rw [Nat.pow_succ]
    generalize 4294967296 ^ j = K at *
    grind

theorem mod_cancel {X Y Z V V' q M : Nat} (h1 : X + Y = V % M + Z) (h2 : V' + Y = V + Z) : X % M = V' % M := by
  have h3 := Nat.mod_add_div V M
  have : V' = X + M * (V / M) := by omega
  rw [this, Nat.add_mul_mod_self_left]

theorem digC_put {V V' j d : Nat} (hj : j < 16) (hd : d < 4294967296) (h : V' + 4294967296 ^ j * (V / 4294967296 ^ j % 4294967296) = V + 4294967296 ^ j * d) : (digC V).set j (.int .u64 (d : Int)) = digC V' := by
  unfold digC
  rw [nums_set]
  have h1 := val_set (dg 16 V) j d _ (dg_get 16 V j hj)
  rw [val_dg] at h1
  have h2 : nums ((dg 16 V).set j d) = digC (val ((dg 16 V).set j d)) := digC_of (by rw [List.length_set, dg_length]) fun y hy => by
    rcases List.mem_or_eq_of_mem_set hy with h3 | h3
    · exact dg_lt 16 V y h3
    · omega
  rw [h2]
  exact digC_congr (mod_cancel (q := 0) h1 h)

theorem digit_le (V j : Nat) : 4294967296 ^ j * (V / 4294967296 ^ j % 4294967296) ≤ V := Nat.le_trans (Nat.mul_le_mul_left _ (Nat.mod_le _ _)) (Nat.mul_div_le V _)

theorem limb_bound {w x y c : Nat} (hw : w < 4294967296) (hx : x < 4294967296) (hy : y < 4294967296) (hc : c < 4294967296) : x * y < 18446744073709551616 ∧ w + x * y < 18446744073709551616 ∧ w + x * y + c < 18446744073709551616 := by
  have : x * y ≤ 4294967295 * 4294967295 := Nat.mul_le_mul (by omega) (by omega)
  omega

theorem mul_next {V0 V V' x y c w P Q P' i k : Nat} (hv : V + c * (P * Q) = V0 + x * P * P') (hV' : V' + P * Q * w = V + P * Q * ((w + x * y + c) % 4294967296)) : V' + (w + x * y + c) / 4294967296 * (P * (Q * 4294967296)) = V0 + x * P * (P' + Q * y) := by
  have h3 := Nat.mod_add_div (w + x * y + c) 4294967296
  generalize (w + x * y + c) % 4294967296 = r at *
  generalize (w + x * y + c) / 4294967296 = s at *
  have h4 : P * Q * r + P * Q * (4294967296 * s) = P * Q * w + P * Q * (x * y) + P * Q * c := by rw [← Nat.mul_add, h3, Nat.mul_add, Nat.mul_add]
  grind

theorem mul_inner {h : Heap} {A B V0 : Nat} {Z : List SV} {i x : Nat} (hi : i < 8) (hx : A / 4294967296 ^ i % 4294967296 = x) : ∀ (m k V c : Nat) (e : Env), k + m = 8 → c < 4294967296 → V + c * (4294967296 ^ i * 4294967296 ^ k) = V0 + x * 4294967296 ^ i * (B % 4294967296 ^ k) →
    e.get 2 = [.sc (.ptr h.length 0 16)] → e.get 3 = [.sc (.ptr (h.length + 1) 0 16)] → e.get 4 = [.sc (.ptr (h.length + 2) 0 16)] → e.get 5 = [.sc (.ptr (h.length + 3) 0 16)] → e.get 6 = [.sc (.int .i64 i)] → e.get 7 = [.sc (.int .u64 c)] → e.get 8 = [.sc (.int .i64 k)] →
    ∃ V' c' : Nat, loopE F O (.loop [2, 3, 4, 5, 6, 7, 8] M.b84_1) e (h ++ [⟨.var, digC A⟩, ⟨.var, digC B⟩, ⟨.var, Z⟩, ⟨.var, digC V⟩]) =
      some (.exit 2, [(2, [.sc (.ptr h.length 0 16)]), (3, [.sc (.ptr (h.length + 1) 0 16)]), (4, [.sc (.ptr (h.length + 2) 0 16)]), (5, [.sc (.ptr (h.length + 3) 0 16)]), (6, [.sc (.int .i64 i)]), (7, [.sc (.int .u64 c')]), (8, [.sc (.int .i64 8)]), (15, [.sc (.bool false)])],
        h ++ [⟨.var, digC A⟩, ⟨.var, digC B⟩, ⟨.var, Z⟩, ⟨.var, digC V'⟩]) ∧ V' + c' * (4294967296 ^ i * 4294967296 ^ 8) = V0 + x * 4294967296 ^ i * (B % 4294967296 ^ 8)
  | 0, k, V, c, e, hk, hc, hv, e2, e3, e4, e5, e6, e7, e8 => by
    have : k = 8 := by omega
    subst this
    exact ⟨V, c, exitM fun R RO RD RT E => by simp [M.b84_1, E.eqs, e2, e3, e4, e5, e6, e7, e8], hv⟩
  | m + 1, k, V, c, e, hk, hc, hv, e2, e3, e4, e5, e6, e7, e8 => by
    have hk8 : k < 8 := by omega
    obtain ⟨y, hy⟩ : ∃ y, y = B / 4294967296 ^ k % 4294967296 := ⟨_, rfl⟩
    obtain ⟨w, hw⟩ : ∃ w, w = V / 4294967296 ^ (i + k) % 4294967296 := ⟨_, rfl⟩
    have g1 := digC_get (N := A) (show i < 16 by omega)
    have g2 := digC_get (N := B) (show k < 16 by omega)
    have g3 := digC_get (N := V) (show i + k < 16 by omega)
    rw [hx] at g1
    rw [← hy] at g2
    rw [← hw] at g3
    have hxl : x < 4294967296 := by rw [← hx]; exact Nat.mod_lt _ (by decide)
    have hyl : y < 4294967296 := by rw [hy]; exact Nat.mod_lt _ (by decide)
    have hwl : w < 4294967296 := by rw [hw]; exact Nat.mod_lt _ (by decide)
    obtain ⟨b1, b2, b3⟩ := limb_bound hwl hxl hyl hc
    obtain ⟨p, hp⟩ : ∃ p, p = x * y := ⟨_, rfl⟩
    obtain ⟨s, hs⟩ : ∃ s, s = w + x * y + c := ⟨_, rfl⟩
    have w1 : IntKind.u64.wrap ((x : Int) * y) = (p : Int) := by rw [hp, ← Int.natCast_mul, wu64n b1]
    have w2 : IntKind.u64.wrap ((w : Int) + (p : Int)) = ((w + p : Nat) : Int) := by rw [hp, ← Int.natCast_add, wu64n b2]
    have w3 : IntKind.u64.wrap ((w : Int) + (p : Int) + c) = (s : Int) := by rw [hp, hs, ← Int.natCast_add, ← Int.natCast_add, wu64n b3]
    have w4 : IntKind.i64.wrap ((k : Int) + 1) = k + 1 := wi64 (by omega) (by omega)
    have w5 : IntKind.i64.wrap ((i : Int) + k) = ((i + k : Nat) : Int) := wi64 (by omega) (by omega)
    have w6 : IntKind.u64.wrap ((w : Int) + (p : Int)) = (w : Int) + p := by rw [w2]; omega
    have w7 := wu64n (n := s / 4294967296) (by omega)
    have c1 : (k : Int) < 8 := by omega
    have q1 := blt_of (show i + k < 16 by omega)
    have q2 := blt_of (show i < 16 by omega)
    have q3 := blt_of (show k < 16 by omega)
    have l1 : i + k + 1 ≤ 16 := by omega
    have l2 : i + 1 ≤ 16 := by omega
    have l3 : k + 1 ≤ 16 := by omega
    have hdl := digit_le V (i + k)
    rw [← hw] at hdl
    have hV' : (V - 4294967296 ^ (i + k) * w + 4294967296 ^ (i + k) * (s % 4294967296)) + 4294967296 ^ (i + k) * w = V + 4294967296 ^ (i + k) * (s % 4294967296) := by omega
    have st := digC_put (V := V) (V' := V - 4294967296 ^ (i + k) * w + 4294967296 ^ (i + k) * (s % 4294967296)) (j := i + k) (d := s % 4294967296) (by omega) (Nat.mod_lt _ (by decide)) (by rw [← hw]; exact hV')
    generalize V - 4294967296 ^ (i + k) * w + 4294967296 ^ (i + k) * (s % 4294967296) = V1 at *
    have nx : V1 + s / 4294967296 * (4294967296 ^ i * 4294967296 ^ (k + 1)) = V0 + x * 4294967296 ^ i * (B % 4294967296 ^ (k + 1)) := by
      rw [Nat.pow_add] at hV'
      rw [hs] at hV' ⊢
      rw [Nat.pow_succ 4294967296 k, Nat.mod_mul, ← hy]
      exact mul_next (i := i) (k := k) hv hV'
    obtain ⟨V', c', ih, hf⟩ := mul_inner (h := h) (A := A) (B := B) (V0 := V0) (Z := Z) hi hx m (k + 1) V1 (s / 4294967296) [(2, [.sc (.ptr h.length 0 16)]), (3, [.sc (.ptr (h.length + 1) 0 16)]), (4, [.sc (.ptr (h.length + 2) 0 16)]), (5, [.sc (.ptr (h.length + 3) 0 16)]), (6, [.sc (.int .i64 i)]), (7, [.sc (.int .u64 ((s / 4294967296 : Nat) : Int))]), (8, [.sc (.int .i64 ((k + 1 : Nat) : Int))])]
      (by omega) (by omega) nx rfl rfl rfl rfl rfl rfl rfl
    refine ⟨V', c', stepM (fun R RO RD RT E => ?_) ih, hf⟩
    clear ih nx hf hV' hdl
    have t1 := tdivK s
    have t2 := tmodK s
    generalize s / 4294967296 = s1 at *
    generalize s % 4294967296 = s2 at *
    generalize i + k = j at *
    simp [M.b84_1, E.eqs, e2, e3, e4, e5, e6, e7, e8, freshB, loadA, storeA, c1, q1, q2, q3, l1, l2, l3, g1, g2, g3, w1, w6, w3, w4, w5, w7, t1, t2, st]

theorem carry_none {V c K L M : Nat} (h : V + c * (K * L) = M) (hM : M < K * L) : c = 0 ∧ V = M := by
  have : c = 0 := by
    rcases Nat.eq_zero_or_pos c with h1 | h1
    · exact h1
    · have : K * L ≤ c * (K * L) := Nat.le_mul_of_pos_left _ h1
      omega
  subst this
  omega

theorem mul_outer {h : Heap} {A B : Nat} {Z : List SV} (hB : B < 4294967296 ^ 7) : ∀ (m i : Nat) (e : Env), i + m = 8 →
    e.get 2 = [.sc (.ptr h.length 0 16)] → e.get 3 = [.sc (.ptr (h.length + 1) 0 16)] → e.get 4 = [.sc (.ptr (h.length + 2) 0 16)] → e.get 5 = [.sc (.ptr (h.length + 3) 0 16)] → e.get 6 = [.sc (.int .i64 i)] →
    loopE F O (.loop [2, 3, 4, 5, 6] M.b84_0) e (h ++ [⟨.var, digC A⟩, ⟨.var, digC B⟩, ⟨.var, Z⟩, ⟨.var, digC (A % 4294967296 ^ i * B)⟩]) =
      some (.exit 0, [(2, [.sc (.ptr h.length 0 16)]), (3, [.sc (.ptr (h.length + 1) 0 16)]), (4, [.sc (.ptr (h.length + 2) 0 16)]), (5, [.sc (.ptr (h.length + 3) 0 16)]), (6, [.sc (.int .i64 8)]), (11, [.sc (.bool false)])],
        h ++ [⟨.var, digC A⟩, ⟨.var, digC B⟩, ⟨.var, Z⟩, ⟨.var, digC (A % 4294967296 ^ 8 * B)⟩])
  | 0, i, e, hi, e2, e3, e4, e5, e6 => by
    have : i = 8 := by omega
    subst this
    exact exitM fun R RO RD RT E => by simp [M.b84_0, E.eqs, e2, e3, e4, e5, e6]
  | m + 1, i, e, hi, e2, e3, e4, e5, e6 => by
    have c1 : (i : Int) < 8 := by omega
    have w4 : IntKind.i64.wrap ((i : Int) + 1) = i + 1 := wi64 (by omega) (by omega)
    obtain ⟨V', c', lo, hf⟩ := mul_inner (h := h) (A := A) (B := B) (V0 := A % 4294967296 ^ i * B) (Z := Z) (i := i) (by omega) rfl 8 0 (A % 4294967296 ^ i * B) 0 [(2, [.sc (.ptr h.length 0 16)]), (3, [.sc (.ptr (h.length + 1) 0 16)]), (4, [.sc (.ptr (h.length + 2) 0 16)]), (5, [.sc (.ptr (h.length + 3) 0 16)]), (6, [.sc (.int .i64 i)]), (7, [.sc (.int .u64 0)]), (8, [.sc (.int .i64 0)])]
      (by omega) (by omega) (by rw [Nat.pow_zero, Nat.mod_one]; omega) rfl rfl rfl rfl rfl rfl rfl
    have e1 : A % 4294967296 ^ i * B + A / 4294967296 ^ i % 4294967296 * 4294967296 ^ i * B = A % 4294967296 ^ (i + 1) * B := by
      rw [Nat.pow_succ, Nat.mod_mul, Nat.add_mul, Nat.mul_comm (4294967296 ^ i)]
    rw [Nat.mod_eq_of_lt (a := B) (Nat.lt_of_lt_of_le hB (by decide)), e1] at hf
    have hlt : A % 4294967296 ^ (i + 1) * B < 4294967296 ^ i * 4294967296 ^ 8 := by
      have h1 : A % 4294967296 ^ (i + 1) < 4294967296 ^ (i + 1) := Nat.mod_lt _ (Nat.pow_pos (by decide))
      have h2 : 4294967296 ^ i * 4294967296 ^ 8 = 4294967296 ^ (i + 1) * 4294967296 ^ 7 := by rw [← Nat.pow_add, ← Nat.pow_add, Nat.add_right_comm, Nat.add_assoc i 7 1]
      rw [h2]
      exact Nat.mul_lt_mul'' h1 hB
    obtain ⟨rfl, rfl⟩ := carry_none hf hlt
    have ih := mul_outer (h := h) (A := A) (B := B) (Z := Z) hB m (i + 1) [(2, [.sc (.ptr h.length 0 16)]), (3, [.sc (.ptr (h.length + 1) 0 16)]), (4, [.sc (.ptr (h.length + 2) 0 16)]), (5, [.sc (.ptr (h.length + 3) 0 16)]), (6, [.sc (.int .i64 ((i + 1 : Nat) : Int))])] (by omega) rfl rfl rfl rfl rfl
    refine stepM (fun R RO RD RT E => ?_) ih
    have lo := E.run (loop_run lo)
    simp [M.b84_0, E.eqs, e2, e3, e4, e5, e6, c1, w4, lo]

theorem spec84 (h : Heap) {A B : Nat} (hA : A < 4294967296 ^ 8) (hB : B < 4294967296 ^ 7) : call 84 [[.agg (digC A)], [.agg (digC B)]] h = some ([.agg (digC (A * B))], h) := by
  have lo := mul_outer (h := h) (A := A) (B := B) (Z := digC 0) hB 8 0 [(2, [.sc (.ptr h.length 0 16)]), (3, [.sc (.ptr (h.length + 1) 0 16)]), (4, [.sc (.ptr (h.length + 2) 0 16)]), (5, [.sc (.ptr (h.length + 3) 0 16)]), (6, [.sc (.int .i64 0)])] (by omega) rfl rfl rfl rfl rfl
  rw [Nat.pow_zero, Nat.mod_one, Nat.zero_mul, Nat.mod_eq_of_lt hA] at lo
  have lo := loop_run lo
  refine callX rfl (by rfl : F 84 = some M.a84) (fun R RO RD RT E => ?_)
  have lo := E.run lo
  simp [M.a84, E.eqs, zeros_digC, lo, freshB, loadA, storeA, trim_pure, pureT, pureV]

theorem natAbs_sgn {a b : Int} : (decide (a < 0) != decide (b < 0) && !decide (a.natAbs * b.natAbs = 0)) = decide (a * b < 0) := by
  by_cases ha0 : a = 0
  · subst ha0; simp
  · by_cases hb0 : b = 0
    · subst hb0; simp
    · have hne : ¬ a.natAbs * b.natAbs = 0 := Nat.mul_ne_zero (by omega) (by omega)
      rw [decide_eq_false hne]
      by_cases h1 : a < 0 <;> by_cases h2 : b < 0
      · have : 0 < a * b := Int.mul_pos_of_neg_of_neg h1 h2
        rw [decide_eq_true h1, decide_eq_true h2, decide_eq_false (by omega)]; rfl
      · have : a * b < 0 := Int.mul_neg_of_neg_of_pos h1 (by omega)
        rw [decide_eq_true h1, decide_eq_false h2, decide_eq_true this]; rfl
      · have : a * b < 0 := Int.mul_neg_of_pos_of_neg (by omega) h2
        rw [decide_eq_false h1, decide_eq_true h2, decide_eq_true this]; rfl
      · have : 0 < a * b := Int.mul_pos (by omega) (by omega)
        rw [decide_eq_false h1, decide_eq_false h2, decide_eq_false (by omega)]; rfl

theorem spec58 (h : Heap) {a b : Int} (ha : a.natAbs < 4294967296 ^ 8) (hb : b.natAbs < 4294967296 ^ 7) : call 58 [[.agg (bigC a)], [.agg (bigC b)]] h = some ([.agg (bigC (a * b))], h) := by
  have s1 := fun h => spec84 h ha hb
  have hlt : a.natAbs * b.natAbs < 4294967296 ^ 16 := Nat.lt_trans (Nat.mul_lt_mul'' ha hb) (by decide)
  have s2 := fun h => spec77 h hlt
  have mk := big_mk (n := a * b) (b := decide (a < 0) != decide (b < 0) && !decide (a.natAbs * b.natAbs = 0)) (N := a.natAbs * b.natAbs) natAbs_sgn (Int.natAbs_mul a b).symm
  refine callX rfl (by rfl : F 58 = some M.a58) (fun R RO RD RT E => ?_)
  generalize a.natAbs * b.natAbs = P at *
  by_cases c1 : (decide (a < 0) != decide (b < 0)) = true
  · simp [c1] at mk
    simp [M.a58, E.eqs, s1, s2, c1, mk, zeros_big, zeros_digC, fldA, freshB, loadA, storeA, trim_pure, pureT, pureV, pureS]
  · have c2 : (decide (a < 0) != decide (b < 0)) = false := by simpa using c1
    simp [c2] at mk
    simp [M.a58, E.eqs, s1, s2, c2, mk, zeros_big, zeros_digC, fldA, freshB, loadA, storeA, trim_pure, pureT, pureV, pureS]

theorem InW.natAbs {n : Int} (h : InW n) : n.natAbs < 4294967296 ^ 5 := by
  unfold InW at h
  have : (4294967296 : Nat) ^ 5 = 1461501637330902918203684832716283019655932542976 := by decide
  rw [this]
  omega

theorem InW.mul {a b : Int} (ha : InW a) (hb : InW b) : InB (a * b) := by
  unfold InB
  rw [Int.natAbs_mul]
  exact Nat.lt_trans (Nat.mul_lt_mul'' ha.natAbs hb.natAbs) (by decide)

end Go.Proofs.Ytdodhmidhcpnnaa
