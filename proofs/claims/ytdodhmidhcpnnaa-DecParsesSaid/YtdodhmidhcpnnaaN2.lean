/- Chapter 2, the document's: digits to the base 2^32. -/
import Derived.Test.YtdodhmidhcpnnaaN1
set_option linter.unusedVariables false
set_option linter.unusedSimpArgs false
set_option maxRecDepth 100000
namespace Go.Proofs.Ytdodhmidhcpnnaa
open Go.Abs

/-- the n lowest digits of a number -/
def dg : Nat → Nat → List Nat
  | 0, _ => []
  | n + 1, N => N % 4294967296 :: dg n (N / 4294967296)
def val : List Nat → Nat
  | [] => 0
  | d :: l => d + 4294967296 * val l
theorem dg_length : ∀ (n N : Nat), (dg n N).length = n
  | 0, _ => rfl
  | n + 1, N => by simp [dg, dg_length n]
theorem dg_lt : ∀ (n N : Nat), ∀ d ∈ dg n N, d < 4294967296
  | 0, _, d, h => by simp [dg] at h
  | n + 1, N, d, h => by
    simp only [dg, List.mem_cons] at h
    rcases h with rfl | h
    · omega
    · exact dg_lt n _ d h
theorem dg_val : ∀ (l : List Nat), (∀ d ∈ l, d < 4294967296) → dg l.length (val l) = l
  | [], _ => rfl
  | d :: l, h => by
    have hd := h d (by simp)
    have e1 : (d + 4294967296 * val l) % 4294967296 = d := by omega
    have e2 : (d + 4294967296 * val l) / 4294967296 = val l := by omega
    simp only [List.length_cons, dg, val, e1, e2, dg_val l fun x hx => h x (List.mem_cons_of_mem _ hx)]
theorem dg_congr : ∀ (n : Nat) {N M : Nat}, N % 4294967296 ^ n = M % 4294967296 ^ n → dg n N = dg n M
  | 0, _, _, _ => rfl
  | n + 1, N, M, h => by
    rw [Nat.pow_succ, Nat.mul_comm, Nat.mod_mul, Nat.mod_mul] at h
    have h1 : N % 4294967296 = M % 4294967296 := by
      have := congrArg (· % 4294967296) h
      simp only [Nat.add_mul_mod_self_left, Nat.mod_mod] at this
      exact this
    have h2 : N / 4294967296 % 4294967296 ^ n = M / 4294967296 % 4294967296 ^ n := by omega
    simp only [dg, h1, dg_congr n h2]
theorem dg_get : ∀ (n N i : Nat), i < n → (dg n N)[i]? = some (N / 4294967296 ^ i % 4294967296)
  | 0, _, i, h => by omega
  | n + 1, N, 0, _ => by simp [dg]
  | n + 1, N, i + 1, h => by
    simp only [dg, List.getElem?_cons_succ]
    rw [dg_get n _ i (by omega), Nat.div_div_eq_div_mul, Nat.pow_succ, Nat.mul_comm]
theorem val_append : ∀ (l m : List Nat), val (l ++ m) = val l + 4294967296 ^ l.length * val m
  | [], m => by simp [val]
  | d :: l, m => by
    simp only [List.cons_append, val, val_append l m, List.length_cons, Nat.pow_succ]
    grind
theorem val_zeros : ∀ k, val (List.replicate k 0) = 0
  | 0 => rfl
  | k + 1 => by simp [List.replicate_succ, val, val_zeros k]
theorem val_lt : ∀ (l : List Nat), (∀ d ∈ l, d < 4294967296) → val l < 4294967296 ^ l.length
  | [], _ => by simp [val]
  | d :: l, h => by
    have hd := h d (by simp)
    have := val_lt l fun x hx => h x (List.mem_cons_of_mem _ hx)
    simp only [val, List.length_cons, Nat.pow_succ]
    omega
theorem val_dg : ∀ (n N : Nat), val (dg n N) = N % 4294967296 ^ n
  | 0, N => by simp [dg, val, Nat.mod_one]
  | n + 1, N => by
    simp only [dg, val, val_dg n]
    rw [Nat.pow_succ, Nat.mul_comm (4294967296 ^ n), Nat.mod_mul]

def nums (l : List Nat) : List SV := l.map fun (d : Nat) => .int .u64 (d : Int)
/-- the cells of sixteen digits -/
def digC (N : Nat) : List SV := nums (dg 16 N)
theorem nums_length (l : List Nat) : (nums l).length = l.length := by simp [nums]
theorem nums_get (l : List Nat) (i : Nat) : (nums l)[i]? = (l[i]?).map fun (d : Nat) => .int .u64 (d : Int) := by simp [nums]
theorem nums_set (l : List Nat) (i d : Nat) : (nums l).set i (.int .u64 (d : Int)) = nums (l.set i d) := by simp [nums, List.map_set]
theorem nums_append (l m : List Nat) : nums (l ++ m) = nums l ++ nums m := by simp [nums]
@[simp] theorem digC_length (N : Nat) : (digC N).length = 16 := by simp [digC, nums_length, dg_length]
@[simp] theorem digC_take (N : Nat) : List.take 16 (digC N) = digC N := List.take_of_length_le (by simp)
theorem nums_pure (l : List Nat) : (nums l).all pureS = true := by simp [nums, pureS]
@[simp] theorem digC_pure (N : Nat) : (digC N).all pureS = true := nums_pure _
theorem setCells_full {α : Type} : ∀ (vs l : List α) (p : List α), l.length = vs.length → setCells (p ++ l) p.length vs = p ++ vs
  | [], [], p, _ => by simp [setCells]
  | v :: vs, x :: l, p, h => by
    have := setCells_full vs l (p ++ [v]) (by simpa using h)
    simp only [setCells, List.set_append_right _ _ (Nat.le_refl _), Nat.sub_self, List.set_cons_zero]
    simpa using this
  | [], _ :: _, _, h => by simp at h
  | _ :: _, [], _, h => by simp at h
@[simp] theorem digC_set {N : Nat} {l : List SV} (hl : l.length = 16) : setCells l 0 (digC N) = digC N := by
  simpa using setCells_full (digC N) l [] (by simp [hl])
theorem digC_congr {N M : Nat} (h : N % 4294967296 ^ 16 = M % 4294967296 ^ 16) : digC N = digC M := by unfold digC; rw [dg_congr 16 h]
theorem digC_get {N i : Nat} (hi : i < 16) : (digC N)[i]? = some (.int .u64 ((N / 4294967296 ^ i % 4294967296 : Nat) : Int)) := by unfold digC; rw [nums_get, dg_get 16 N i hi]; rfl
theorem digC_of {l : List Nat} (h : l.length = 16) (hl : ∀ d ∈ l, d < 4294967296) : nums l = digC (val l) := by
  unfold digC
  rw [← h, dg_val l hl]
theorem zeros_digC : [SV.int .u64 0, .int .u64 0, .int .u64 0, .int .u64 0, .int .u64 0, .int .u64 0, .int .u64 0, .int .u64 0, .int .u64 0, .int .u64 0, .int .u64 0, .int .u64 0, .int .u64 0, .int .u64 0, .int .u64 0, .int .u64 0] = digC 0 := rfl

theorem set_at (p : List Nat) (k d : Nat) : (p ++ List.replicate (k + 1) 0).set p.length d = (p ++ [d]) ++ List.replicate k 0 := by
  rw [List.set_append_right _ _ (Nat.le_refl _), Nat.sub_self, List.replicate_succ, List.set_cons_zero]
  simp

theorem tdivK (n : Nat) : (n : Int).tdiv 4294967296 = ((n / 4294967296 : Nat) : Int) := by rw [Int.tdiv_eq_ediv_of_nonneg (by omega)]; omega
theorem tmodK (n : Nat) : (n : Int).tmod 4294967296 = ((n % 4294967296 : Nat) : Int) := by rw [Int.tmod_eq_emod_of_nonneg (by omega)]; omega
theorem wu64n {n : Nat} (h : n < 18446744073709551616) : IntKind.u64.wrap (n : Int) = n := wu64 (by omega) (by omega)
theorem blt_of {i n : Nat} (h : i < n) : Nat.blt i n = true := by simp [Nat.blt]; omega

theorem add_loop {h : Heap} {a b : Nat} {Z : List SV} : ∀ (k i : Nat) (p : List Nat) (c : Nat) (e : Env), i + k = 16 → p.length = i → (∀ d ∈ p, d < 4294967296) → c ≤ 1 → val p + c * 4294967296 ^ i = a % 4294967296 ^ i + b % 4294967296 ^ i →
    e.get 2 = [.sc (.ptr h.length 0 16)] → e.get 3 = [.sc (.ptr (h.length + 1) 0 16)] → e.get 4 = [.sc (.ptr (h.length + 2) 0 16)] → e.get 5 = [.sc (.ptr (h.length + 3) 0 16)] → e.get 6 = [.sc (.int .u64 c)] → e.get 7 = [.sc (.int .i64 i)] →
    ∃ c' : Nat, loopE F O (.loop [2, 3, 4, 5, 6, 7] M.b83_0) e (h ++ [⟨.var, digC a⟩, ⟨.var, digC b⟩, ⟨.var, Z⟩, ⟨.var, nums (p ++ List.replicate k 0)⟩]) =
      some (.exit 0, [(2, [.sc (.ptr h.length 0 16)]), (3, [.sc (.ptr (h.length + 1) 0 16)]), (4, [.sc (.ptr (h.length + 2) 0 16)]), (5, [.sc (.ptr (h.length + 3) 0 16)]), (6, [.sc (.int .u64 c')]), (7, [.sc (.int .i64 16)]), (10, [.sc (.bool false)])],
        h ++ [⟨.var, digC a⟩, ⟨.var, digC b⟩, ⟨.var, Z⟩, ⟨.var, digC (a + b)⟩])
  | 0, i, p, c, e, hi, hp, hd, hc, hv, e2, e3, e4, e5, e6, e7 => by
    have : i = 16 := by omega
    subst this
    have h1 : nums (p ++ List.replicate 0 0) = digC (a + b) := by
      rw [List.replicate_zero, List.append_nil, digC_of hp hd]
      refine digC_congr ?_
      have : (a + b) % 4294967296 ^ 16 = (a % 4294967296 ^ 16 + b % 4294967296 ^ 16) % 4294967296 ^ 16 := Nat.add_mod _ _ _
      rw [this, ← hv, Nat.add_mul_mod_self_right]
    rw [h1]
    exact ⟨c, exitM fun R RO RD RT E => by simp [M.b83_0, E.eqs, e2, e3, e4, e5, e6, e7]⟩
  | k + 1, i, p, c, e, hi, hp, hd, hc, hv, e2, e3, e4, e5, e6, e7 => by
    have hi16 : i < 16 := by omega
    obtain ⟨x, hx⟩ : ∃ x, x = a / 4294967296 ^ i % 4294967296 := ⟨_, rfl⟩
    obtain ⟨y, hy⟩ : ∃ y, y = b / 4294967296 ^ i % 4294967296 := ⟨_, rfl⟩
    have g1 := digC_get (N := a) hi16
    have g2 := digC_get (N := b) hi16
    rw [← hx] at g1
    rw [← hy] at g2
    obtain ⟨s, hs⟩ : ∃ s, s = x + y + c := ⟨_, rfl⟩
    have w1 : IntKind.u64.wrap ((x : Int) + y) = (x : Int) + y := by rw [wu64 (by omega) (by omega)]
    have w2 : IntKind.u64.wrap ((x : Int) + y + c) = (s : Int) := by rw [wu64 (by omega) (by omega)]; omega
    have w3 := wu64n (n := s / 4294967296) (by omega)
    have w4 : IntKind.i64.wrap ((i : Int) + 1) = i + 1 := wi64 (by omega) (by omega)
    have b1 := blt_of hi16
    have c1 : (i : Int) < 16 := by omega
    have st : (nums (p ++ List.replicate (k + 1) 0)).set i (.int .u64 ((s % 4294967296 : Nat) : Int)) = nums ((p ++ [s % 4294967296]) ++ List.replicate k 0) := by rw [nums_set, ← hp, set_at]
    have ln : (nums (p ++ List.replicate (k + 1) 0)).length = 16 := by simp [nums_length]; omega
    obtain ⟨c', ih⟩ := add_loop (h := h) (a := a) (b := b) (Z := Z) k (i + 1) (p ++ [s % 4294967296]) (s / 4294967296) [(2, [.sc (.ptr h.length 0 16)]), (3, [.sc (.ptr (h.length + 1) 0 16)]), (4, [.sc (.ptr (h.length + 2) 0 16)]), (5, [.sc (.ptr (h.length + 3) 0 16)]), (6, [.sc (.int .u64 ((s / 4294967296 : Nat) : Int))]), (7, [.sc (.int .i64 ((i + 1 : Nat) : Int))])]
      (by omega) (by simp [hp]) (fun d hd' => by
        rcases List.mem_append.1 hd' with h1 | h1
        · exact hd d h1
        · simp at h1; omega) (by omega) (by
        rw [val_append, hp, Nat.pow_succ, Nat.mod_mul, Nat.mod_mul, ← hx, ← hy]
        simp only [val]
        have : x + y + c = s % 4294967296 + 4294967296 * (s / 4294967296) := by omega
        grind) rfl rfl rfl rfl rfl rfl
    refine ⟨c', stepM (fun R RO RD RT E => ?_) ih⟩
    have l1 : i + 1 ≤ 16 := hi16
    have t1 := tdivK s
    have t2 := tmodK s
    generalize s / 4294967296 = s1 at *
    generalize s % 4294967296 = s2 at *
    simp [M.b83_0, E.eqs, e2, e3, e4, e5, e6, e7, freshB, loadA, storeA, c1, b1, l1, g1, g2, w1, w2, t1, t2, w3, w4, ln, st]

theorem spec83 (h : Heap) (a b : Nat) : call 83 [[.agg (digC a)], [.agg (digC b)]] h = some ([.agg (digC (a + b))], h) := by
  obtain ⟨c', lo⟩ := add_loop (h := h) (a := a) (b := b) (Z := digC 0) 16 0 [] 0 [(2, [.sc (.ptr h.length 0 16)]), (3, [.sc (.ptr (h.length + 1) 0 16)]), (4, [.sc (.ptr (h.length + 2) 0 16)]), (5, [.sc (.ptr (h.length + 3) 0 16)]), (6, [.sc (.int .u64 0)]), (7, [.sc (.int .i64 0)])]
    rfl rfl (by simp) (by omega) (by simp [val, Nat.mod_one]) rfl rfl rfl rfl rfl rfl
  have e1 : nums ([] ++ List.replicate 16 0) = digC 0 := by simp [digC, dg, List.replicate]
  rw [e1] at lo
  have lo := loop_run lo
  refine callX rfl (by rfl : F 83 = some M.a83) (fun R RO RD RT E => ?_)
  have lo := E.run lo
  simp [M.a83, E.eqs, zeros_digC, lo, freshB, loadA, storeA, trim_pure, pureT, pureV]

theorem sub_loop {h : Heap} {a b : Nat} {Z : List SV} (ha : a < 4294967296 ^ 16) (hba : b ≤ a) : ∀ (k i : Nat) (p : List Nat) (c : Nat) (e : Env), i + k = 16 → p.length = i → (∀ d ∈ p, d < 4294967296) → c ≤ 1 → val p + b % 4294967296 ^ i = a % 4294967296 ^ i + c * 4294967296 ^ i →
    e.get 2 = [.sc (.ptr h.length 0 16)] → e.get 3 = [.sc (.ptr (h.length + 1) 0 16)] → e.get 4 = [.sc (.ptr (h.length + 2) 0 16)] → e.get 5 = [.sc (.ptr (h.length + 3) 0 16)] → e.get 6 = [.sc (.int .u64 c)] → e.get 7 = [.sc (.int .i64 i)] →
    ∃ c' : Nat, loopE F O (.loop [2, 3, 4, 5, 6, 7] M.b85_0) e (h ++ [⟨.var, digC a⟩, ⟨.var, digC b⟩, ⟨.var, Z⟩, ⟨.var, nums (p ++ List.replicate k 0)⟩]) =
      some (.exit 0, [(2, [.sc (.ptr h.length 0 16)]), (3, [.sc (.ptr (h.length + 1) 0 16)]), (4, [.sc (.ptr (h.length + 2) 0 16)]), (5, [.sc (.ptr (h.length + 3) 0 16)]), (6, [.sc (.int .u64 c')]), (7, [.sc (.int .i64 16)]), (10, [.sc (.bool false)])],
        h ++ [⟨.var, digC a⟩, ⟨.var, digC b⟩, ⟨.var, Z⟩, ⟨.var, digC (a - b)⟩])
  | 0, i, p, c, e, hi, hp, hd, hc, hv, e2, e3, e4, e5, e6, e7 => by
    have : i = 16 := by omega
    subst this
    have h1 : nums (p ++ List.replicate 0 0) = digC (a - b) := by
      rw [List.replicate_zero, List.append_nil, digC_of hp hd]
      rw [Nat.mod_eq_of_lt ha, Nat.mod_eq_of_lt (Nat.lt_of_le_of_lt hba ha)] at hv
      have hl := val_lt p hd
      rw [hp] at hl
      have : c = 0 ∨ c = 1 := by omega
      rcases this with rfl | rfl
      · congr 1; omega
      · exfalso; omega
    rw [h1]
    exact ⟨c, exitM fun R RO RD RT E => by simp [M.b85_0, E.eqs, e2, e3, e4, e5, e6, e7]⟩
  | k + 1, i, p, c, e, hi, hp, hd, hc, hv, e2, e3, e4, e5, e6, e7 => by
    have hi16 : i < 16 := by omega
    obtain ⟨x, hx⟩ : ∃ x, x = a / 4294967296 ^ i % 4294967296 := ⟨_, rfl⟩
    obtain ⟨y, hy⟩ : ∃ y, y = b / 4294967296 ^ i % 4294967296 := ⟨_, rfl⟩
    have g1 := digC_get (N := a) hi16
    have g2 := digC_get (N := b) hi16
    rw [← hx] at g1
    rw [← hy] at g2
    obtain ⟨s, hs⟩ : ∃ s, s = x + 4294967296 - y - c := ⟨_, rfl⟩
    have w0 : IntKind.u64.wrap ((x : Int) + 4294967296) = (x : Int) + 4294967296 := by rw [wu64 (by omega) (by omega)]
    have w1 : IntKind.u64.wrap ((x : Int) + 4294967296 - y) = (x : Int) + 4294967296 - y := by rw [wu64 (by omega) (by omega)]
    have w2 : IntKind.u64.wrap ((x : Int) + 4294967296 - y - c) = (s : Int) := by rw [wu64 (by omega) (by omega)]; omega
    have w3 := wu64n (n := s / 4294967296) (by omega)
    have w5 : IntKind.u64.wrap (1 - ((s / 4294967296 : Nat) : Int)) = ((1 - s / 4294967296 : Nat) : Int) := by rw [wu64 (by omega) (by omega)]; omega
    have w4 : IntKind.i64.wrap ((i : Int) + 1) = i + 1 := wi64 (by omega) (by omega)
    have b1 := blt_of hi16
    have c1 : (i : Int) < 16 := by omega
    have st : (nums (p ++ List.replicate (k + 1) 0)).set i (.int .u64 ((s % 4294967296 : Nat) : Int)) = nums ((p ++ [s % 4294967296]) ++ List.replicate k 0) := by rw [nums_set, ← hp, set_at]
    have ln : (nums (p ++ List.replicate (k + 1) 0)).length = 16 := by simp [nums_length]; omega
    obtain ⟨c', ih⟩ := sub_loop (h := h) (a := a) (b := b) (Z := Z) ha hba k (i + 1) (p ++ [s % 4294967296]) (1 - s / 4294967296) [(2, [.sc (.ptr h.length 0 16)]), (3, [.sc (.ptr (h.length + 1) 0 16)]), (4, [.sc (.ptr (h.length + 2) 0 16)]), (5, [.sc (.ptr (h.length + 3) 0 16)]), (6, [.sc (.int .u64 ((1 - s / 4294967296 : Nat) : Int))]), (7, [.sc (.int .i64 ((i + 1 : Nat) : Int))])]
      (by omega) (by simp [hp]) (fun d hd' => by
        rcases List.mem_append.1 hd' with h1 | h1
        · exact hd d h1
        · simp at h1; omega) (by omega) (by
        rw [val_append, hp, Nat.pow_succ, Nat.mod_mul, Nat.mod_mul, ← hx, ← hy]
        simp only [val]
        have : s % 4294967296 + y + c = x + 4294967296 * (1 - s / 4294967296) := by omega
        generalize 1 - s / 4294967296 = q at *
        grind) rfl rfl rfl rfl rfl rfl
    refine ⟨c', stepM (fun R RO RD RT E => ?_) ih⟩
    have l1 : i + 1 ≤ 16 := hi16
    have t1 := tdivK s
    have t2 := tmodK s
    generalize 1 - s / 4294967296 = s0 at *
    generalize s / 4294967296 = s1 at *
    generalize s % 4294967296 = s2 at *
    simp [M.b85_0, E.eqs, e2, e3, e4, e5, e6, e7, freshB, loadA, storeA, c1, b1, l1, g1, g2, w0, w1, w2, t1, t2, w3, w4, w5, ln, st]

theorem spec85 (h : Heap) {a b : Nat} (ha : a < 4294967296 ^ 16) (hba : b ≤ a) : call 85 [[.agg (digC a)], [.agg (digC b)]] h = some ([.agg (digC (a - b))], h) := by
  obtain ⟨c', lo⟩ := sub_loop (h := h) (a := a) (b := b) (Z := digC 0) ha hba 16 0 [] 0 [(2, [.sc (.ptr h.length 0 16)]), (3, [.sc (.ptr (h.length + 1) 0 16)]), (4, [.sc (.ptr (h.length + 2) 0 16)]), (5, [.sc (.ptr (h.length + 3) 0 16)]), (6, [.sc (.int .u64 0)]), (7, [.sc (.int .i64 0)])]
    rfl rfl (by simp) (by omega) (by simp [val, Nat.mod_one]) rfl rfl rfl rfl rfl rfl
  have e1 : nums ([] ++ List.replicate 16 0) = digC 0 := by simp [digC, dg, List.replicate]
  rw [e1] at lo
  have lo := loop_run lo
  refine callX rfl (by rfl : F 85 = some M.a85) (fun R RO RD RT E => ?_)
  have lo := E.run lo
  simp [M.a85, E.eqs, zeros_digC, lo, freshB, loadA, storeA, trim_pure, pureT, pureV]
end Go.Proofs.Ytdodhmidhcpnnaa
