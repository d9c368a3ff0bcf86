/- Chapter 2, the document's: digits compared; big numbers. -/
import Derived.Test.YtdodhmidhcpnnaaN2
set_option linter.unusedVariables false
set_option linter.unusedSimpArgs false
set_option maxRecDepth 100000
namespace Go.Proofs.Ytdodhmidhcpnnaa
open Go.Abs

theorem div_step (a i : Nat) : a / 4294967296 ^ i = a / 4294967296 ^ (i + 1) * 4294967296 + a / 4294967296 ^ i % 4294967296 := by
  rw [Nat.pow_succ, ← Nat.div_div_eq_div_mul]
  omega

theorem cmp_loop {h : Heap} {a b : Nat} : ∀ (n : Nat) (e : Env), n ≤ 16 → a / 4294967296 ^ n = b / 4294967296 ^ n →
    e.get 2 = [.sc (.ptr h.length 0 16)] → e.get 3 = [.sc (.ptr (h.length + 1) 0 16)] → e.get 5 = [.sc (.int .i64 ((n : Int) - 1))] →
    loopE F O (.loop [2, 3, 5] M.b82_0) e (h ++ [⟨.var, digC a⟩, ⟨.var, digC b⟩]) =
      some (if a = b then (.exit 0, [(2, [.sc (.ptr h.length 0 16)]), (3, [.sc (.ptr (h.length + 1) 0 16)]), (5, [.sc (.int .i64 (-1))]), (7, [.sc (.bool false)])], h ++ [⟨.var, digC a⟩, ⟨.var, digC b⟩])
        else (.ret, [(4, [.sc (.int .i64 (if a < b then -1 else 1))])], h ++ [⟨.var, digC a⟩, ⟨.var, digC b⟩]))
  | 0, e, hn, hab, e2, e3, e5 => by
    have : a = b := by simpa using hab
    rw [if_pos this]
    exact exitM fun R RO RD RT E => by simp [M.b82_0, E.eqs, e2, e3, e5]
  | n + 1, e, hn, hab, e2, e3, e5 => by
    have hi16 : n < 16 := by omega
    have da := div_step a n
    have db := div_step b n
    rw [hab] at da
    obtain ⟨x, hx⟩ : ∃ x, x = a / 4294967296 ^ n % 4294967296 := ⟨_, rfl⟩
    obtain ⟨y, hy⟩ : ∃ y, y = b / 4294967296 ^ n % 4294967296 := ⟨_, rfl⟩
    have g1 := digC_get (N := a) hi16
    have g2 := digC_get (N := b) hi16
    rw [← hx] at g1 da
    rw [← hy] at g2 db
    have b1 := blt_of hi16
    have l1 : n + 1 ≤ 16 := hi16
    have e5' : e.get 5 = [.sc (.int .i64 (n : Int))] := by rw [e5]; congr 3; omega
    have c1 : (0 : Int) ≤ n := by omega
    by_cases hxy : x = y
    · have ih := cmp_loop (h := h) (a := a) (b := b) n [(2, [.sc (.ptr h.length 0 16)]), (3, [.sc (.ptr (h.length + 1) 0 16)]), (5, [.sc (.int .i64 ((n : Int) - 1))])] (by omega) (by omega) rfl rfl rfl
      refine stepM (fun R RO RD RT E => ?_) ih
      have w4 : IntKind.i64.wrap ((n : Int) - 1) = (n : Int) - 1 := wi64 (by omega) (by omega)
      simp [M.b82_0, E.eqs, e2, e3, e5', freshB, loadA, storeA, c1, b1, l1, g1, g2, hxy, w4]
    · have hne : ¬ a = b := fun h => hxy (by rw [hx, hy, h])
      rw [if_neg hne]
      have hlt : (a < b) ↔ x < y := by
        constructor
        · intro hl
          have : a / 4294967296 ^ n ≤ b / 4294967296 ^ n := Nat.div_le_div_right (by omega)
          omega
        · intro hl
          have hq : a / 4294967296 ^ n < b / 4294967296 ^ n := by omega
          exact Nat.lt_of_div_lt_div hq
      by_cases hl : x < y
      · rw [if_pos (hlt.2 hl)]
        exact retM fun R RO RD RT E => by simp [M.b82_0, E.eqs, e2, e3, e5', freshB, loadA, storeA, c1, b1, l1, g1, g2, hxy, hl]
      · rw [if_neg (fun h => hl (hlt.1 h))]
        exact retM fun R RO RD RT E => by simp [M.b82_0, E.eqs, e2, e3, e5', freshB, loadA, storeA, c1, b1, l1, g1, g2, hxy, hl]

theorem spec82 (h : Heap) {a b : Nat} (ha : a < 4294967296 ^ 16) (hb : b < 4294967296 ^ 16) : call 82 [[.agg (digC a)], [.agg (digC b)]] h = some ([.sc (.int .i64 (if a = b then 0 else if a < b then -1 else 1))], h) := by
  have lo := loop_run (cmp_loop (h := h) (a := a) (b := b) 16 [(2, [.sc (.ptr h.length 0 16)]), (3, [.sc (.ptr (h.length + 1) 0 16)]), (5, [.sc (.int .i64 15)])] (by omega) (by rw [Nat.div_eq_of_lt ha, Nat.div_eq_of_lt hb]) rfl rfl rfl)
  refine callX rfl (by rfl : F 82 = some M.a82) (fun R RO RD RT E => ?_)
  have lo := E.run lo
  by_cases hab : a = b
  · rw [if_pos hab] at lo
    simp [M.a82, E.eqs, lo, freshB, loadA, storeA, trim_pure, pureT, pureV, pureS, hab]
    try (rw [hab] at lo; simp [lo, trim_pure, pureT, pureV, pureS])
  · rw [if_neg hab] at lo
    simp [M.a82, E.eqs, lo, freshB, loadA, storeA, trim_pure, pureT, pureV, pureS, hab]

theorem eqK_nums : ∀ (l m : List Nat) (ks : List FK), l.length = m.length → ks = List.replicate l.length .i → eqK ks (nums l) (nums m) = some (decide (l = m))
  | [], [], ks, _, hk => by subst hk; rfl
  | a :: l, b :: m, ks, h, hk => by
    subst hk
    have := eqK_nums l m _ (by simpa using h) rfl
    have e1 : nums (a :: l) = .int .u64 (a : Int) :: nums l := rfl
    have e2 : nums (b :: m) = .int .u64 (b : Int) :: nums m := rfl
    rw [e1, e2, List.length_cons, List.replicate_succ]
    simp only [eqK, eq1, this, if_true]
    by_cases hab : a = b <;> by_cases hlm : l = m <;> simp [hab, hlm] <;> omega
  | [], _ :: _, _, h, _ => by simp at h
  | _ :: _, [], _, h, _ => by simp at h

theorem digC_inj {a b : Nat} (ha : a < 4294967296 ^ 16) (hb : b < 4294967296 ^ 16) : dg 16 a = dg 16 b ↔ a = b := by
  constructor
  · intro h
    have := congrArg val h
    rw [val_dg, val_dg, Nat.mod_eq_of_lt ha, Nat.mod_eq_of_lt hb] at this
    exact this
  · intro h; rw [h]

theorem spec77 (h : Heap) {a : Nat} (ha : a < 4294967296 ^ 16) : call 77 [[.agg (digC a)]] h = some ([.sc (.bool (decide (a = 0)))], h) := by
  have ek : eqK [.i, .i, .i, .i, .i, .i, .i, .i, .i, .i, .i, .i, .i, .i, .i, .i] (digC a) (digC 0) = some (decide (a = 0)) := by
    have := eqK_nums (dg 16 a) (dg 16 0) [.i, .i, .i, .i, .i, .i, .i, .i, .i, .i, .i, .i, .i, .i, .i, .i] (by simp [dg_length]) (by rw [dg_length]; rfl)
    unfold digC
    rw [this]
    simp only [digC_inj ha (show 0 < 4294967296 ^ 16 by decide)]
  refine callX rfl (by rfl : F 77 = some M.a77) (fun R RO RD RT E => ?_)
  simp [M.a77, E.eqs, zeros_digC, ek, freshB, loadA, storeA, trim_pure, pureT, pureV, pureS]

-- big numbers
/-- the cells of a big number -/
def bigC (n : Int) : List SV := .bool (decide (n < 0)) :: digC n.natAbs
@[simp] theorem bigC_length (n : Int) : (bigC n).length = 17 := by simp [bigC]
@[simp] theorem bigC_take (n : Int) : List.take 17 (bigC n) = bigC n := List.take_of_length_le (by simp)
@[simp] theorem bigC_neg (n : Int) : (bigC n)[0]? = some (.bool (decide (n < 0))) := by simp [bigC]
@[simp] theorem bigC_neg' (n : Int) (h : 0 < (bigC n).length) : (bigC n)[0] = .bool (decide (n < 0)) := by simp [bigC]
@[simp] theorem bigC_dig (n : Int) : List.take 16 (List.drop 1 (bigC n)) = digC n.natAbs := by simp [bigC]
@[simp] theorem bigC_tail (n : Int) : (bigC n).tail = digC n.natAbs := by simp [bigC]
@[simp] theorem bigC_pure (n : Int) : (bigC n).all pureS = true := by
  have := digC_pure n.natAbs
  simp only [bigC, List.all_cons, this, pureS, Bool.and_self]
@[simp] theorem bigC_set {n : Int} {l : List SV} (hl : l.length = 17) : setCells l 0 (bigC n) = bigC n := by
  simpa using setCells_full (bigC n) l [] (by simp [hl])
theorem bigC_get {n : Int} {i : Nat} (hi : i < 16) : (bigC n)[1 + i]? = some (.int .u64 ((n.natAbs / 4294967296 ^ i % 4294967296 : Nat) : Int)) := by
  unfold bigC
  rw [Nat.add_comm, List.getElem?_cons_succ, digC_get hi]
@[simp] theorem big_set {N : Nat} {x : SV} {l : List SV} (hl : l.length = 16) : setCells (x :: l) 1 (digC N) = x :: digC N := by
  simpa using setCells_full (digC N) l [x] (by simp [hl])
theorem big_mk {n : Int} {b : Bool} {N : Nat} (hb : b = decide (n < 0)) (hN : N = n.natAbs) : SV.bool b :: digC N = bigC n := by subst hb hN; rfl
theorem zeros_big : [SV.bool false, .int .u64 0, .int .u64 0, .int .u64 0, .int .u64 0, .int .u64 0, .int .u64 0, .int .u64 0, .int .u64 0, .int .u64 0, .int .u64 0, .int .u64 0, .int .u64 0, .int .u64 0, .int .u64 0, .int .u64 0, .int .u64 0] = bigC 0 := rfl
def InB (n : Int) : Prop := n.natAbs < 4294967296 ^ 15
theorem InB.lt {n : Int} (h : InB n) : n.natAbs < 4294967296 ^ 16 := Nat.lt_of_lt_of_le h (by decide)

theorem spec64 (h : Heap) {a : Int} (ha : InB a) : call 64 [[.agg (bigC a)]] h = some ([.agg (bigC (-a))], h) := by
  have sz := fun h => spec77 h ha.lt
  refine callX rfl (by rfl : F 64 = some M.a64) (fun R RO RD RT E => ?_)
  have hN : (-a).natAbs = a.natAbs := Int.natAbs_neg a
  by_cases c1 : a < 0
  · have mk := big_mk (n := -a) (b := false) (N := a.natAbs) (by simp; omega) hN.symm
    simp [M.a64, E.eqs, sz, c1, mk, fldA, freshB, loadA, storeA, trim_pure, pureT, pureV, pureS]
  · by_cases c2 : a = 0
    · have mk := big_mk (n := -a) (b := false) (N := a.natAbs) (by simp; omega) hN.symm
      subst c2
      simp at mk sz
      simp [M.a64, E.eqs, sz, mk, fldA, freshB, loadA, storeA, trim_pure, pureT, pureV, pureS]
    · have c3 : ¬ a.natAbs = 0 := by omega
      have mk := big_mk (n := -a) (b := true) (N := a.natAbs) (by simp; omega) hN.symm
      simp [M.a64, E.eqs, sz, c1, c2, c3, mk, fldA, freshB, loadA, storeA, trim_pure, pureT, pureV, pureS]

theorem spec63 (h : Heap) {a b : Int} (ha : InB a) (hb : InB b) : call 63 [[.agg (bigC a)], [.agg (bigC b)]] h = some ([.agg (bigC (a + b))], h) := by
  have s1 := fun h => spec83 h a.natAbs b.natAbs
  have s2 := fun h => spec82 h ha.lt hb.lt
  refine callX rfl (by rfl : F 63 = some M.a63) (fun R RO RD RT E => ?_)
  by_cases hs : (a < 0 ↔ b < 0)
  · have mk := big_mk (n := a + b) (b := decide (a < 0)) (N := a.natAbs + b.natAbs) (by simp only [decide_eq_decide]; omega) (by omega)
    by_cases c1 : a < 0
    · have c2 : b < 0 := hs.1 c1
      simp [c1] at mk
      simp [M.a63, E.eqs, s1, c1, c2, mk, fldA, freshB, loadA, storeA, trim_pure, pureT, pureV, pureS]
    · have c2 : ¬ b < 0 := fun h => c1 (hs.2 h)
      simp [c1] at mk
      simp [M.a63, E.eqs, s1, c1, c2, mk, fldA, freshB, loadA, storeA, trim_pure, pureT, pureV, pureS]
  · by_cases hl : a.natAbs < b.natAbs
    · have hne : ¬ a.natAbs = b.natAbs := by omega
      have s3 := fun h => spec85 h hb.lt (Nat.le_of_lt hl)
      have mk := big_mk (n := a + b) (b := decide (b < 0)) (N := b.natAbs - a.natAbs) (by simp only [decide_eq_decide]; omega) (by omega)
      by_cases c1 : a < 0
      · have c2 : ¬ b < 0 := fun h => hs ⟨fun _ => h, fun _ => c1⟩
        simp [c2] at mk
        simp [M.a63, E.eqs, s2, s3, c1, c2, hl, hne, mk, fldA, freshB, loadA, storeA, trim_pure, pureT, pureV, pureS]
      · have c2 : b < 0 := by omega
        simp [c2] at mk
        simp [M.a63, E.eqs, s2, s3, c1, c2, hl, hne, mk, fldA, freshB, loadA, storeA, trim_pure, pureT, pureV, pureS]
    · have s3 := fun h => spec85 h ha.lt (Nat.le_of_not_lt hl)
      have sz := fun h => spec77 h (a := a.natAbs - b.natAbs) (Nat.lt_of_le_of_lt (Nat.sub_le _ _) ha.lt)
      have c5 : ¬ (if a.natAbs = b.natAbs then (0 : Int) else if a.natAbs < b.natAbs then -1 else 1) < 0 := by split <;> (try split) <;> omega
      generalize (if a.natAbs = b.natAbs then (0 : Int) else if a.natAbs < b.natAbs then -1 else 1) = cv at *
      by_cases c1 : a < 0
      · have c2 : ¬ b < 0 := fun h => hs ⟨fun _ => h, fun _ => c1⟩
        have mk := big_mk (n := a + b) (b := !decide (a.natAbs - b.natAbs = 0)) (N := a.natAbs - b.natAbs) (by rw [← decide_not]; simp only [decide_eq_decide]; omega) (by omega)
        generalize hdd : a.natAbs - b.natAbs = dd at *
        by_cases c6 : dd = 0
        · subst c6
          simp at mk sz
          simp [M.a63, E.eqs, s2, s3, sz, c1, c2, c5, mk, fldA, freshB, loadA, storeA, trim_pure, pureT, pureV, pureS]
        · simp [c6] at mk
          simp [M.a63, E.eqs, s2, s3, sz, c1, c2, c5, c6, mk, fldA, freshB, loadA, storeA, trim_pure, pureT, pureV, pureS]
      · have c2 : b < 0 := by omega
        have mk := big_mk (n := a + b) (b := false) (N := a.natAbs - b.natAbs) (by simp; omega) (by omega)
        generalize hdd : a.natAbs - b.natAbs = dd at *
        simp [M.a63, E.eqs, s2, s3, sz, c1, c2, c5, mk, fldA, freshB, loadA, storeA, trim_pure, pureT, pureV, pureS]

theorem InB.neg {n : Int} (h : InB n) : InB (-n) := by unfold InB at *; rw [Int.natAbs_neg]; exact h

theorem spec71 (h : Heap) {a b : Int} (ha : InB a) (hb : InB b) (hab : InB (a - b)) : call 71 [[.agg (bigC a)], [.agg (bigC b)]] h = some ([.sc (.int .i64 (sgn (a - b)))], h) := by
  have s1 := fun h => spec64 h hb
  have s2 := fun h => spec63 h ha hb.neg
  rw [← Int.sub_eq_add_neg] at s2
  have sz := fun h => spec77 h hab.lt
  refine callX rfl (by rfl : F 71 = some M.a71) (fun R RO RD RT E => ?_)
  generalize a - b = d at *
  unfold sgn
  by_cases c1 : d = 0
  · have c2 : d.natAbs = 0 := by omega
    have c3 : ¬ d < 0 := by omega
    rw [if_neg c3, if_pos c1]
    rw [c2] at sz
    have bd : List.take 16 (bigC d).tail = digC 0 := by rw [bigC_tail, c2, digC_take]
    simp [M.a71, E.eqs, s1, s2, sz, c2, bd, fldA, freshB, loadA, storeA, trim_pure, pureT, pureV, pureS, -Int.natAbs_eq_zero]
  · have c2 : ¬ d.natAbs = 0 := by omega
    by_cases c3 : d < 0
    · rw [if_pos c3]
      simp [M.a71, E.eqs, s1, s2, sz, c1, c2, c3, fldA, freshB, loadA, storeA, trim_pure, pureT, pureV, pureS]
    · rw [if_neg c3, if_neg c1]
      simp [M.a71, E.eqs, s1, s2, sz, c1, c2, c3, fldA, freshB, loadA, storeA, trim_pure, pureT, pureV, pureS]

theorem dig128 {hi lo N : Nat} (hN : N = hi * 18446744073709551616 + lo) (h1 : hi < 18446744073709551616) (h2 : lo < 18446744073709551616) :
    digC N = [.int .u64 ((lo % 4294967296 : Nat) : Int), .int .u64 ((lo / 4294967296 : Nat) : Int), .int .u64 ((hi % 4294967296 : Nat) : Int), .int .u64 ((hi / 4294967296 : Nat) : Int), .int .u64 0, .int .u64 0, .int .u64 0, .int .u64 0, .int .u64 0, .int .u64 0, .int .u64 0, .int .u64 0, .int .u64 0, .int .u64 0, .int .u64 0, .int .u64 0] := by
  have e0 : N % 4294967296 = lo % 4294967296 := by omega
  have e1 : N / 4294967296 % 4294967296 = lo / 4294967296 := by omega
  have e2 : N / 4294967296 / 4294967296 = hi := by omega
  have e3 : hi / 4294967296 % 4294967296 = hi / 4294967296 := by omega
  have e4 : hi / 4294967296 / 4294967296 = 0 := by omega
  simp only [digC, dg, nums, List.map_cons, List.map_nil, e0, e1, e2, e3, e4]
  try rfl

theorem not_u64 {n : Nat} (h : n < 18446744073709551616) : bitop .xor .u64 18446744073709551615 (n : Int) = ((18446744073709551615 - n : Nat) : Int) := by
  have e4 : BitVec.ofInt 64 18446744073709551615 = BitVec.allOnes 64 := by decide
  simp only [bitop]
  rw [show (IntKind.u64.bits) = 64 from rfl, e4, BitVec.ofInt_natCast, BitVec.xor_comm, BitVec.xor_allOnes, BitVec.toNat_not, BitVec.toNat_ofNat, Nat.mod_eq_of_lt (by simpa using h), wu64 (by omega) (by omega)]

theorem tdivKe (n : Nat) : (n : Int).tdiv 4294967296 = (n : Int) / 4294967296 := Int.tdiv_eq_ediv_of_nonneg (by omega)
theorem tmodKe (n : Nat) : (n : Int).tmod 4294967296 = (n : Int) % 4294967296 := Int.tmod_eq_emod_of_nonneg (by omega)
theorem wrap64_0 : IntKind.u64.wrap 0 = 0 := by rw [wu64']; omega
theorem wdivK {n : Nat} (h : n < 18446744073709551616) : IntKind.u64.wrap ((n : Int) / 4294967296) = (n : Int) / 4294967296 := by rw [wu64']; omega

theorem big128 {a : Int} {b : Bool} {hi lo : Nat} (hb : b = decide (a < 0)) (hN : a.natAbs = hi * 18446744073709551616 + lo) (h1 : hi < 18446744073709551616) (h2 : lo < 18446744073709551616) :
    [SV.bool b, .int .u64 ((lo : Int) % 4294967296), .int .u64 ((lo : Int) / 4294967296), .int .u64 ((hi : Int) % 4294967296), .int .u64 ((hi : Int) / 4294967296), .int .u64 0, .int .u64 0, .int .u64 0, .int .u64 0, .int .u64 0, .int .u64 0, .int .u64 0, .int .u64 0, .int .u64 0, .int .u64 0, .int .u64 0, .int .u64 0] = bigC a := by
  unfold bigC
  rw [dig128 hN h1 h2, hb]
  simp

theorem spec59 (h : Heap) {a : Int} (ha : InW a) : call 59 [[W a]] h = some ([.agg (bigC a)], h) := by
  obtain ⟨ah, al, e1, e2, e3, e4, e5⟩ := W_of ha
  obtain ⟨au, g1, g2⟩ := u64_nat ah
  rw [e1]
  refine callX rfl (by rfl : F 59 = some M.a59) (fun R RO RD RT E => ?_)
  by_cases c1 : ah < 0
  · have n1 := not_u64 (n := au) (by omega)
    have n2 := not_u64 (n := al) (by omega)
    obtain ⟨lo, hlo⟩ : ∃ lo, lo = (18446744073709551615 - al + 1) % 18446744073709551616 := ⟨_, rfl⟩
    generalize hx : 18446744073709551615 - au = x at *
    generalize hy : 18446744073709551615 - al = y at *
    have w1 : IntKind.u64.wrap ((y : Int) + 1) = (lo : Int) := by rw [wu64']; omega
    by_cases c2 : lo = 0
    · have w2 : IntKind.u64.wrap ((x : Int) + 1) = ((x + 1 : Nat) : Int) := by rw [wu64 (by omega) (by omega)]; omega
      have bb := big128 (a := a) (b := true) (hi := x + 1) (lo := lo) (by simp; omega) (by omega) (by omega) (by omega)
      have w3 := wdivK (n := x + 1) (by omega)
      have w4 := wdivK (n := lo) (by omega)
      have t1 := tdivKe (x + 1)
      have t2 := tmodKe (x + 1)
      subst c2
      generalize x + 1 = x1 at *
      simp at bb
      simp [M.a59, E.eqs, c1, g1, n1, n2, w1, w2, w3, w4, t1, t2, bb, wrap64_0, IntKind.signed, IntKind.max, IntKind.bits, fldA, freshB, loadA, storeA, trim_pure, pureT, pureV]
    · have bb := big128 (a := a) (b := true) (hi := x) (lo := lo) (by simp; omega) (by omega) (by omega) (by omega)
      have w3 := wdivK (n := x) (by omega)
      have w4 := wdivK (n := lo) (by omega)
      have c3 : ¬ (lo : Int) = 0 := by omega
      simp [M.a59, E.eqs, c1, c2, c3, g1, n1, n2, w1, w3, w4, tdivKe, tmodKe, bb, IntKind.signed, IntKind.max, IntKind.bits, fldA, freshB, loadA, storeA, trim_pure, pureT, pureV]
  · have bb := big128 (a := a) (b := false) (hi := au) (lo := al) (by simp; omega) (by omega) (by omega) (by omega)
    have w3 := wdivK (n := au) (by omega)
    have w4 := wdivK (n := al) (by omega)
    simp [M.a59, E.eqs, c1, g1, w3, w4, tdivKe, tmodKe, bb, fldA, freshB, loadA, storeA, trim_pure, pureT, pureV]

theorem get_of {α : Type} {l : List α} {i : Nat} {x : α} (h : l[i]? = some x) (hh : i < l.length) : l[i] = x := by rw [List.getElem?_eq_getElem hh] at h; injection h

theorem wide_loop {h : Heap} {n : Int} (hn : InB n) : ∀ (k i : Nat) (e : Env), i + k = 16 → e.get 1 = [.sc (.ptr h.length 0 17)] → e.get 2 = [.sc (.ptr (h.length + 1) 0 2)] → e.get 4 = [.sc (.int .i64 i)] →
    loopE F O (.loop [1, 2, 4] M.b62_0) e (h ++ [⟨.var, bigC n⟩, ⟨.var, [.int .i64 0, .int .u64 0]⟩]) =
      some (if n.natAbs / 4294967296 ^ i = 0 then (.exit 0, [(1, [.sc (.ptr h.length 0 17)]), (2, [.sc (.ptr (h.length + 1) 0 2)]), (4, [.sc (.int .i64 16)]), (8, [.sc (.bool false)])], h ++ [⟨.var, bigC n⟩, ⟨.var, [.int .i64 0, .int .u64 0]⟩])
        else (.ret, [(2, [.sc (.ptr (h.length + 1) 0 2)]), (3, [.sc (.bool false)])], h ++ [⟨.var, bigC n⟩, ⟨.var, [.int .i64 0, .int .u64 0]⟩]))
  | 0, i, e, hi, e1, e2, e4 => by
    have : i = 16 := by omega
    subst this
    rw [if_pos (Nat.div_eq_of_lt hn.lt)]
    exact exitM fun R RO RD RT E => by simp [M.b62_0, E.eqs, e1, e2, e4]
  | k + 1, i, e, hi, e1, e2, e4 => by
    have hi16 : i < 16 := by omega
    have da := div_step n.natAbs i
    obtain ⟨x, hx⟩ : ∃ x, x = n.natAbs / 4294967296 ^ i % 4294967296 := ⟨_, rfl⟩
    have g1 := bigC_get (n := n) hi16
    rw [← hx] at g1 da
    have b1 := blt_of hi16
    have l1 : 1 + i + 1 ≤ 17 := by omega
    have c1 : (i : Int) < 16 := by omega
    by_cases hx0 : x = 0
    · have hiff : (n.natAbs / 4294967296 ^ i = 0) = (n.natAbs / 4294967296 ^ (i + 1) = 0) := by rw [eq_iff_iff]; omega
      have ih := wide_loop (h := h) hn k (i + 1) [(1, [.sc (.ptr h.length 0 17)]), (2, [.sc (.ptr (h.length + 1) 0 2)]), (4, [.sc (.int .i64 ((i + 1 : Nat) : Int))])] (by omega) rfl rfl rfl
      simp only [hiff]
      refine stepM (fun R RO RD RT E => ?_) ih
      have w4 : IntKind.i64.wrap ((i : Int) + 1) = i + 1 := wi64 (by omega) (by omega)
      rw [hx0] at g1
      simp [M.b62_0, E.eqs, e1, e2, e4, fldA, freshB, loadA, storeA, c1, b1, l1, g1, w4]
    · rw [if_neg (by omega)]
      exact retM fun R RO RD RT E => by simp [M.b62_0, E.eqs, e1, e2, e4, fldA, freshB, loadA, storeA, c1, b1, l1, g1, hx0]

theorem low128 {N : Nat} (h : N / 4294967296 ^ 4 = 0) : N < 340282366920938463463374607431768211456 := by
  rcases Nat.lt_or_ge N 340282366920938463463374607431768211456 with h1 | h1
  · exact h1
  · have := Nat.div_le_div_right (c := 4294967296 ^ 4) h1
    simp at this h
    omega

theorem digs128 {N : Nat} (h : N < 340282366920938463463374607431768211456) : ∃ lo hi : Nat, N = hi * 18446744073709551616 + lo ∧ hi < 18446744073709551616 ∧ lo < 18446744073709551616 ∧
    N / 4294967296 ^ 0 % 4294967296 + N / 4294967296 ^ 1 % 4294967296 * 4294967296 = lo ∧ N / 4294967296 ^ 2 % 4294967296 + N / 4294967296 ^ 3 % 4294967296 * 4294967296 = hi := by
  refine ⟨N % 18446744073709551616, N / 18446744073709551616, by omega, by omega, by omega, ?_, ?_⟩
  · simp only [Nat.pow_zero, Nat.div_one, Nat.pow_one]
    omega
  · have e2 : N / 4294967296 ^ 2 = N / 18446744073709551616 := by congr 1
    have e3 : N / 4294967296 ^ 3 = N / 18446744073709551616 / 4294967296 := by rw [Nat.div_div_eq_div_mul]
    rw [e2, e3]
    omega

theorem spec62 (h : Heap) {n : Int} (hn : InB n) : ∃ p q : Int, call 62 [[.agg (bigC n)]] h = some ([.agg [.int .i64 p, .int .u64 q], .sc (.bool (decide (InW n)))], h) ∧ (InW n → [SV.int .i64 p, .int .u64 q] = wC n) := by
  have lo := loop_run (wide_loop (h := h) hn 12 4 [(1, [.sc (.ptr h.length 0 17)]), (2, [.sc (.ptr (h.length + 1) 0 2)]), (4, [.sc (.int .i64 4)])] rfl rfl rfl rfl)
  by_cases hz : n.natAbs / 4294967296 ^ 4 = 0
  · rw [if_pos hz] at lo
    have hlt := low128 hz
    obtain ⟨l, u, hN, hu, hl, hlo, hhi⟩ := digs128 hlt
    obtain ⟨d0, hd0⟩ : ∃ d, d = n.natAbs / 4294967296 ^ 0 % 4294967296 := ⟨_, rfl⟩
    obtain ⟨d1, hd1⟩ : ∃ d, d = n.natAbs / 4294967296 ^ 1 % 4294967296 := ⟨_, rfl⟩
    obtain ⟨d2, hd2⟩ : ∃ d, d = n.natAbs / 4294967296 ^ 2 % 4294967296 := ⟨_, rfl⟩
    obtain ⟨d3, hd3⟩ : ∃ d, d = n.natAbs / 4294967296 ^ 3 % 4294967296 := ⟨_, rfl⟩
    have g0 := bigC_get (n := n) (i := 0) (by omega)
    have g1 := bigC_get (n := n) (i := 1) (by omega)
    have g2 := bigC_get (n := n) (i := 2) (by omega)
    have g3 := bigC_get (n := n) (i := 3) (by omega)
    rw [← hd0] at g0 hlo
    rw [← hd1] at g1 hlo
    rw [← hd2] at g2 hhi
    rw [← hd3] at g3 hhi
    simp only [Nat.add_zero] at g0
    have g0 : ∀ hh : 1 < (bigC n).length, (bigC n)[1] = _ := fun hh => get_of g0 hh
    have g1 : ∀ hh : 2 < (bigC n).length, (bigC n)[2] = _ := fun hh => get_of g1 hh
    have g2 : ∀ hh : 3 < (bigC n).length, (bigC n)[3] = _ := fun hh => get_of g2 hh
    have g3 : ∀ hh : 4 < (bigC n).length, (bigC n)[4] = _ := fun hh => get_of g3 hh
    have w1 : IntKind.u64.wrap ((d1 : Int) * 4294967296) = (d1 : Int) * 4294967296 := by rw [wu64 (by omega) (by omega)]
    have w2 : IntKind.u64.wrap ((d0 : Int) + (d1 : Int) * 4294967296) = (l : Int) := by rw [wu64 (by omega) (by omega)]; omega
    have w3 : IntKind.u64.wrap ((d3 : Int) * 4294967296) = (d3 : Int) * 4294967296 := by rw [wu64 (by omega) (by omega)]
    have w4 : IntKind.u64.wrap ((d2 : Int) + (d3 : Int) * 4294967296) = (u : Int) := by rw [wu64 (by omega) (by omega)]; omega
    clear hlo hhi hd0 hd1 hd2 hd3 hz
    by_cases c1 : n < 0
    · have hNI : n = -((u : Int) * 18446744073709551616 + l) := by omega
      by_cases c2 : InW n
      · have n1 := not_u64 (n := u) (by omega)
        have n2 := not_u64 (n := l) (by omega)
        obtain ⟨lo', hlo'⟩ : ∃ lo, lo = (18446744073709551615 - l + 1) % 18446744073709551616 := ⟨_, rfl⟩
        have c3 : u < 9223372036854775808 ∨ u = 9223372036854775808 ∧ l = 0 := by unfold InW at c2; omega
        have c4 : ¬ 9223372036854775808 < u := by omega
        generalize hx : 18446744073709551615 - u = x at *
        generalize hy : 18446744073709551615 - l = y at *
        have w5 : IntKind.u64.wrap ((y : Int) + 1) = (lo' : Int) := by rw [wu64']; omega
        by_cases c5 : lo' = 0
        · have w6 : IntKind.u64.wrap ((x : Int) + 1) = ((x + 1) % 18446744073709551616 : Nat) := by rw [wu64']; omega
          obtain ⟨x1, hx1⟩ : ∃ x1, x1 = (x + 1) % 18446744073709551616 := ⟨_, rfl⟩
          rw [← hx1] at w6
          have bb := W_eq (n := n) (hi := IntKind.i64.wrap (x1 : Int)) (lo := 0) (by omega) (by omega) (by rw [wi64']; omega)
          refine ⟨IntKind.i64.wrap (x1 : Int), 0, ?_, fun _ => by injection bb with bb; exact bb.symm⟩
          refine callX rfl (by rfl : F 62 = some M.a62) (fun R RO RD RT E => ?_)
          have lo := E.run lo
          subst c5
          rcases c3 with c3 | ⟨c3, c6⟩
          · have c7 : ¬ u = 9223372036854775808 := by omega
            have c8 : ¬ (u : Int) = 9223372036854775808 := by omega
            have c9 : ¬ (9223372036854775808 : Int) < u := by omega
            simp at w5
            simp [M.a62, E.eqs, lo, g0, g1, g2, g3, shAmt, w1, w2, w3, w4, n1, n2, w5, w6, c1, c2, c4, c7, c8, c9, IntKind.signed, IntKind.max, IntKind.bits, fldA, freshB, loadA, storeA, trim_pure, pureT, pureV, pureS]
          · subst c3 c6
            simp at w5 w2 w4 n1 n2
            simp [M.a62, E.eqs, lo, g0, g1, g2, g3, shAmt, w1, w2, w3, w4, n1, n2, w5, w6, c1, c2, IntKind.signed, IntKind.max, IntKind.bits, fldA, freshB, loadA, storeA, trim_pure, pureT, pureV, pureS]
        · have bb := W_eq (n := n) (hi := IntKind.i64.wrap (x : Int)) (lo := (lo' : Int)) (by omega) (by omega) (by rw [wi64']; omega)
          refine ⟨IntKind.i64.wrap (x : Int), lo', ?_, fun _ => by injection bb with bb; exact bb.symm⟩
          refine callX rfl (by rfl : F 62 = some M.a62) (fun R RO RD RT E => ?_)
          have lo := E.run lo
          have c7 : ¬ u = 9223372036854775808 := by omega
          have c8 : ¬ (u : Int) = 9223372036854775808 := by omega
          have c9 : ¬ (9223372036854775808 : Int) < u := by omega
          have c10 : ¬ (lo' : Int) = 0 := by omega
          simp [M.a62, E.eqs, lo, g0, g1, g2, g3, shAmt, w1, w2, w3, w4, n1, n2, w5, c1, c2, c4, c5, c7, c8, c9, c10, IntKind.signed, IntKind.max, IntKind.bits, fldA, freshB, loadA, storeA, trim_pure, pureT, pureV, pureS]
      · refine ⟨0, 0, ?_, fun h => absurd h c2⟩
        refine callX rfl (by rfl : F 62 = some M.a62) (fun R RO RD RT E => ?_)
        have lo := E.run lo
        have c3 : 9223372036854775808 < u ∨ u = 9223372036854775808 ∧ 0 < l := by unfold InW at c2; omega
        rcases c3 with c3 | ⟨c3, c6⟩
        · have c9 : (9223372036854775808 : Int) < u := by omega
          simp [M.a62, E.eqs, lo, g0, g1, g2, g3, shAmt, w1, w2, w3, w4, c1, c2, c3, c9, IntKind.signed, IntKind.max, IntKind.bits, fldA, freshB, loadA, storeA, trim_pure, pureT, pureV, pureS]
        · subst c3
          simp at w4
          simp [M.a62, E.eqs, lo, g0, g1, g2, g3, shAmt, w1, w2, w3, w4, c1, c2, c6, IntKind.signed, IntKind.max, IntKind.bits, fldA, freshB, loadA, storeA, trim_pure, pureT, pureV, pureS]
    · refine ⟨IntKind.i64.wrap (u : Int), l, ?_, fun hi => ?_⟩
      · have c2 : decide ((u : Int) < 9223372036854775808) = decide (InW n) := by simp only [decide_eq_decide]; unfold InW; omega
        refine callX rfl (by rfl : F 62 = some M.a62) (fun R RO RD RT E => ?_)
        have lo := E.run lo
        simp [M.a62, E.eqs, lo, g0, g1, g2, g3, shAmt, w1, w2, w3, w4, c1, c2, IntKind.signed, IntKind.max, IntKind.bits, fldA, freshB, loadA, storeA, trim_pure, pureT, pureV, pureS]
      · have bb := W_eq (n := n) (hi := IntKind.i64.wrap (u : Int)) (lo := (l : Int)) (by omega) (by omega) (by rw [wi64']; unfold InW at hi; omega)
        injection bb with bb
        exact bb.symm
  · rw [if_neg hz] at lo
    have c2 : ¬ InW n := by
      intro hi
      unfold InW at hi
      apply hz
      rw [Nat.div_eq_zero_iff]
      right
      simp
      omega
    refine ⟨0, 0, ?_, fun h => absurd h c2⟩
    refine callX rfl (by rfl : F 62 = some M.a62) (fun R RO RD RT E => ?_)
    have lo := E.run lo
    simp [M.a62, E.eqs, lo, c2, fldA, freshB, loadA, storeA, trim_pure, pureT, pureV, pureS]
end Go.Proofs.Ytdodhmidhcpnnaa
