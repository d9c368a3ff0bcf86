/- Chapter 1: readers: what they read, said with lists. -/
import Derived.Test.YtokdnndocipilaaS5
import Derived.Test.YtokdnndocipilaaS7
set_option linter.unusedVariables false
set_option linter.unusedSimpArgs false
set_option maxRecDepth 100000
namespace Go.Proofs.Ytokdnndocipilaa
open Go.Abs

/-- a number's digits: the number, the error, how many bytes -/
def numD : List UInt8 → Nat → Nat → Nat × Nat × Nat
  | [], _, _ => (0, 10, 0)
  | x :: t, k, n =>
    if k = 9 ∧ 1 < x.toNat then (0, 11, 0)
    else if 128 ≤ x.toNat then numD t (k + 1) (n + x.toNat % 128 * 2 ^ (7 * k))
    else if x.toNat = 0 ∧ 0 < k then (0, 11, 0) else (n + x.toNat % 128 * 2 ^ (7 * k), 0, k + 1)

theorem numD_spec : ∀ (t : List UInt8) (k n : Nat), k ≤ 9 → n < 2 ^ (7 * k) → (numD t k n).1 < 18446744073709551616 ∧ ((numD t k n).2.1 = 0 ∧ k < (numD t k n).2.2 ∧ (numD t k n).2.2 ≤ k + t.length ∨ ((numD t k n).2.1 = 10 ∨ (numD t k n).2.1 = 11) ∧ (numD t k n).1 = 0)
  | [], k, n, hk, hn => by simp [numD]
  | x :: t, k, n, hk, hn => by
    unfold numD
    split
    · simp
    · rename_i h9
      have hx := x.toNat_lt
      split
      · rename_i h128
        have hk8 : k ≤ 8 := by omega
        have hb : n + x.toNat % 128 * 2 ^ (7 * k) < 2 ^ (7 * (k + 1)) := by
          have : 2 ^ (7 * (k + 1)) = 2 ^ (7 * k) * 128 := by rw [Nat.mul_add, Nat.pow_add]
          rw [this]
          have h1 : x.toNat % 128 ≤ 127 := by omega
          have h2 : x.toNat % 128 * 2 ^ (7 * k) ≤ 127 * 2 ^ (7 * k) := Nat.mul_le_mul_right _ h1
          omega
        obtain ⟨h1, h2⟩ := numD_spec t (k + 1) _ (by omega) hb
        refine ⟨h1, ?_⟩
        rcases h2 with ⟨h2, h3, h4⟩ | h2
        · exact .inl ⟨h2, by omega, by simp only [List.length_cons]; omega⟩
        · exact .inr h2
      · split
        · simp
        · refine ⟨?_, .inl ⟨rfl, Nat.lt_succ_self k, by simp only [List.length_cons]; omega⟩⟩
          simp only
          by_cases h : k = 9
          · subst h
            have : x.toNat ≤ 1 := by omega
            have h2 : x.toNat % 128 * 2 ^ (7 * 9) ≤ 1 * 2 ^ (7 * 9) := Nat.mul_le_mul_right _ (by omega)
            simp at hn h2 ⊢
            omega
          · have h1 : x.toNat % 128 ≤ 127 := by omega
            have h2 : x.toNat % 128 * 2 ^ (7 * k) ≤ 127 * 2 ^ (7 * k) := Nat.mul_le_mul_right _ h1
            have h3 : 2 ^ (7 * k) ≤ 2 ^ (7 * 8) := Nat.pow_le_pow_right (by omega) (by omega)
            simp at h3
            omega

-- what a reader at a place does
def rByte (l : List UInt8) (a bad most : Nat) : Nat × Nat × Nat := if bad ≠ 0 then (0, a, bad) else match l[a]? with
  | none => (0, a, 10)
  | some b => if most < b.toNat then (0, a, 12) else (b.toNat, a + 1, 0)
def rN (D : Nat × Nat × Nat) (a most : Nat) : Nat × Nat × Nat := if D.2.1 ≠ 0 then (0, a, D.2.1) else if most < D.1 then (0, a, 12) else (D.1, a + D.2.2, 0)
def rNum (l : List UInt8) (a bad most : Nat) : Nat × Nat × Nat := if bad ≠ 0 then (0, a, bad) else rN (numD (l.drop a) 0 0) a most
/-- a number with a sign, out of one without -/
def unzz (n : Nat) : Int := if n % 2 = 1 then -((n / 2 : Nat) : Int) - 1 else ((n / 2 : Nat) : Int)
def rText (l : List UInt8) (a bad : Nat) (most : Int) : List UInt8 × Nat × Nat :=
  let r := rNum l a bad (max most 0).toNat
  if r.2.2 ≠ 0 then ([], r.2.1, r.2.2)
  else if l.length - r.2.1 < r.1 then ([], a, 10) else ((l.drop r.2.1).take r.1, r.2.1 + r.1, 0)
def rEnd (l : List UInt8) (a bad : Nat) : Nat := if bad = 0 ∧ a < l.length then 11 else bad

/-- a reader at block i -/
structure Rd (h : Heap) (i : Nat) (x : SV) (l : List UInt8) (a bad : Nat) : Prop where
  at_ : h[i]? = some ⟨.var, [x, .int .i64 a, .int .i64 bad]⟩
  row : Row h x 1 l.length (Go.Abs.bytes l)
  off : ¬ blk x i
  len : l.length ≤ 140737488353280
  le : a ≤ l.length
  small : bad < 100
def setR (h : Heap) (i : Nat) (x : SV) (a bad : Nat) : Heap := h.set i ⟨.var, [x, .int .i64 a, .int .i64 bad]⟩

section
variable {h : Heap} {i : Nat} {x : SV} {l : List UInt8} {a bad : Nat}
theorem Rd.lt (r : Rd h i x l a bad) : i < h.length := lt_of_get r.at_
theorem Rd.fresh (r : Rd h i x l a bad) : freshB h i 3 = true := freshB_of r.at_ rfl
theorem setR_mod (h : Heap) (i : Nat) (x : SV) (a bad : Nat) : Mod (fun j => j = i) h (setR h i x a bad) := Mod.set _ _ rfl
theorem Rd.set (r : Rd h i x l a bad) {a' bad' : Nat} (h1 : a' ≤ l.length) (h2 : bad' < 100) : Rd (setR h i x a' bad') i x l a' bad' :=
  ⟨get_set_same r.at_, r.row.mod (setR_mod h i x a' bad') fun j hj e => r.off (e ▸ hj), r.off, r.len, h1, h2⟩
theorem setR_length : (setR h i x a bad).length = h.length := by simp [setR]
theorem setR_set {a' bad' : Nat} : setR (setR h i x a bad) i x a' bad' = setR h i x a' bad' := by simp [setR]
theorem Rd.same (r : Rd h i x l a bad) : setR h i x a bad = h := by
  apply List.ext_getElem?
  intro j
  by_cases hj : j = i
  · subst hj; exact (get_set_same r.at_).trans r.at_.symm
  · exact get_set_other hj
theorem Rd.get_set (r : Rd h i x l a bad) {a' bad' : Nat} : (setR h i x a' bad')[i]? = some ⟨.var, [x, .int .i64 a', .int .i64 bad']⟩ := get_set_same r.at_

theorem Rd.nil (r : Rd h i x l a bad) : nilckA h [.sc (.ptr i 0 3)] = some ([.sc (.ptr i 0 3)], h) := by simp [nilckA, r.fresh]
theorem Rd.fld (r : Rd h i x l a bad) (k : Nat) : fldA h k [.sc (.ptr i 0 3)] = some ([.sc (.ptr i k 3)], h) := by simp [fldA, r.fresh]
theorem Rd.l0 (r : Rd h i x l a bad) : loadA h false 1 [.sc (.ptr i 0 3)] = some ([.sc x], h) := by simp [loadA, r.at_]
theorem Rd.l1 (r : Rd h i x l a bad) : loadA h false 1 [.sc (.ptr i 1 3)] = some ([.sc (.int .i64 a)], h) := by simp [loadA, r.at_]
theorem Rd.l2 (r : Rd h i x l a bad) : loadA h false 1 [.sc (.ptr i 2 3)] = some ([.sc (.int .i64 bad)], h) := by simp [loadA, r.at_]
theorem Rd.s1 (r : Rd h i x l a bad) {v : Int} {a' : Nat} (hv : v = a') : storeA h 1 [.sc (.ptr i 1 3)] [.sc (.int .i64 v)] = some ([], setR h i x a' bad) := by subst hv; simp [storeA, r.at_, setR]
theorem Rd.s2 (r : Rd h i x l a bad) (v : Nat) : storeA h 1 [.sc (.ptr i 2 3)] [.sc (.int .i64 v)] = some ([], setR h i x a v) := by simp [storeA, r.at_, setR]

theorem spec42 (r : Rd h i x l a 0) (e : Nat) : call 42 [[.sc (.ptr i 0 3)], [.sc (.int .i64 e)]] h = some ([], setR h i x a e) := by
  have f0 := r.fresh
  have hi := r.at_
  have := callM (F := F) (O := O) (f := 42) (args := [[.sc (.ptr i 0 3)], [.sc (.int .i64 e)]]) (h := h) (x := .normal) (e := []) (h' := setR h i x a e) rfl (by rfl : F 42 = some M.a42) (fun R RO RD RT E => by
    simp [M.a42, E.eqs, nilckA, fldA, loadA, storeA, f0, hi, setR]) (.inl rfl) rfl
  rw [trim_len setR_length] at this
  exact this

theorem spec44 (r : Rd h i x l a bad) (a' e : Nat) : call 44 [[.sc (.ptr i 0 3)], [.sc (.int .i64 a')], [.sc (.int .i64 e)]] h = some ([.sc (.int .u64 0)], setR h i x a' e) := by
  have f0 := r.fresh
  have hi := r.at_
  have gs : ∀ B : Blk, (h.set i B)[i]? = some B := fun B => get_set_same hi
  have := callM (F := F) (O := O) (f := 44) (args := [[.sc (.ptr i 0 3)], [.sc (.int .i64 a')], [.sc (.int .i64 e)]]) (h := h) (x := .ret) (e := [(6, [.sc (.int .u64 0)])]) (h' := setR h i x a' e) rfl (by rfl : F 44 = some M.a44) (fun R RO RD RT E => by
    have f1 : freshB (h.set i ⟨.var, [x, .int .i64 a, .int .i64 e]⟩) i 3 = true := freshB_of (get_set_same hi) rfl
    simp [M.a44, E.eqs, nilckA, fldA, loadA, storeA, f0, f1, hi, gs, setR]) (.inr rfl) rfl
  rw [trim_len setR_length] at this
  exact this

theorem spec36 (r : Rd h i x l a bad) : call 36 [[.sc (.ptr i 0 3)]] h = some ([.sc (.int .i64 (rEnd l a bad))], h) := by
  have f0 := r.fresh
  have hi := r.at_
  have ln := lenA_row r.row
  refine callX rfl (by rfl : F 36 = some M.a36) (fun R RO RD RT E => ?_)
  unfold rEnd
  by_cases c1 : bad = 0
  · subst c1
    by_cases c2 : a < l.length
    · rw [if_pos ⟨rfl, c2⟩]
      simp [M.a36, E.eqs, nilckA, fldA, loadA, storeA, f0, hi, ln, c2]
    · rw [if_neg (fun h => c2 h.2)]
      simp [M.a36, E.eqs, nilckA, fldA, loadA, storeA, f0, hi, ln, c2]
  · rw [if_neg (fun h => c1 h.1)]
    have c3 : ¬ (bad : Int) = 0 := by omega
    simp [M.a36, E.eqs, nilckA, fldA, loadA, storeA, f0, hi, ln, c1, c3]

theorem spec41 (r : Rd h i x l a bad) : call 41 [[.sc (.ptr i 0 3)]] h = some ([.sc (.int .i64 (rEnd l a bad))], h) := by
  have f0 := r.fresh
  have hi := r.at_
  have ln := lenA_row r.row
  refine callX rfl (by rfl : F 41 = some M.a41) (fun R RO RD RT E => ?_)
  unfold rEnd
  by_cases c1 : bad = 0
  · subst c1
    by_cases c2 : a < l.length
    · rw [if_pos ⟨rfl, c2⟩]
      simp [M.a41, E.eqs, nilckA, fldA, loadA, storeA, f0, hi, ln, c2]
    · rw [if_neg (fun h => c2 h.2)]
      simp [M.a41, E.eqs, nilckA, fldA, loadA, storeA, f0, hi, ln, c2]
  · rw [if_neg (fun h => c1 h.1)]
    have c3 : ¬ (bad : Int) = 0 := by omega
    simp [M.a41, E.eqs, nilckA, fldA, loadA, storeA, f0, hi, ln, c1, c3]
end
end Go.Proofs.Ytokdnndocipilaa
