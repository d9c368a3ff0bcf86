/- The abstract machine, part 18: numbers: operations on bits, bounds. -/
import Derived.Test.YtdodhmidhcpnnaaXI
set_option linter.unusedVariables false
set_option linter.unusedSimpArgs false
namespace Go.Abs

theorem wf_int {k : IntKind} {n : Int} (h : (Lit.int k n).wf = true) : k.min ≤ n ∧ n ≤ k.max := by simpa [Lit.wf] using h
theorem wf_u8 {n : Int} (h : (Lit.int .u8 n).wf = true) : 0 ≤ n ∧ n < 256 := by have := wf_int h; simp [IntKind.min, IntKind.max, IntKind.signed, IntKind.bits] at this; omega
theorem wf_u32 {n : Int} (h : (Lit.int .u32 n).wf = true) : 0 ≤ n ∧ n < 4294967296 := by have := wf_int h; simp [IntKind.min, IntKind.max, IntKind.signed, IntKind.bits] at this; omega
theorem wf_u64 {n : Int} (h : (Lit.int .u64 n).wf = true) : 0 ≤ n ∧ n < 18446744073709551616 := by have := wf_int h; simp [IntKind.min, IntKind.max, IntKind.signed, IntKind.bits] at this; omega
theorem wf_i64 {n : Int} (h : (Lit.int .i64 n).wf = true) : -9223372036854775808 ≤ n ∧ n < 9223372036854775808 := by have := wf_int h; simp [IntKind.min, IntKind.max, IntKind.signed, IntKind.bits] at this; omega

theorem wrap_nat {k : IntKind} (hk : k.signed = false) {a : Nat} (ha : a < 2 ^ k.bits) : k.wrap (a : Int) = a := by
  have e : ((a : Int) % (2 ^ k.bits : Int)) = a := Int.emod_eq_of_lt (by omega) (by exact_mod_cast ha)
  simp only [IntKind.wrap, hk, Bool.false_and, Bool.false_eq_true, if_false, e]

theorem bitop_or_nat {k : IntKind} (hk : k.signed = false) {a b : Nat} (ha : a < 2 ^ k.bits) (hb : b < 2 ^ k.bits) : bitop .or k (a : Int) (b : Int) = ((a ||| b : Nat) : Int) := by
  simp only [bitop, BitVec.ofInt_natCast, BitVec.toNat_or, BitVec.toNat_ofNat, Nat.mod_eq_of_lt ha, Nat.mod_eq_of_lt hb]
  exact wrap_nat hk (Nat.or_lt_two_pow ha hb)
theorem bitop_and_nat {k : IntKind} (hk : k.signed = false) {a b : Nat} (ha : a < 2 ^ k.bits) (hb : b < 2 ^ k.bits) : bitop .and k (a : Int) (b : Int) = ((a &&& b : Nat) : Int) := by
  simp only [bitop, BitVec.ofInt_natCast, BitVec.toNat_and, BitVec.toNat_ofNat, Nat.mod_eq_of_lt ha, Nat.mod_eq_of_lt hb]
  exact wrap_nat hk (Nat.and_lt_two_pow _ hb)
theorem bitop_xor_nat {k : IntKind} (hk : k.signed = false) {a b : Nat} (ha : a < 2 ^ k.bits) (hb : b < 2 ^ k.bits) : bitop .xor k (a : Int) (b : Int) = ((a ^^^ b : Nat) : Int) := by
  simp only [bitop, BitVec.ofInt_natCast, BitVec.toNat_xor, BitVec.toNat_ofNat, Nat.mod_eq_of_lt ha, Nat.mod_eq_of_lt hb]
  exact wrap_nat hk (Nat.xor_lt_two_pow ha hb)

theorem or_u64 {a b : Nat} (ha : a < 18446744073709551616) (hb : b < 18446744073709551616) : bitop .or .u64 (a : Int) (b : Int) = ((a ||| b : Nat) : Int) := bitop_or_nat rfl ha hb
theorem and_u64 {a b : Nat} (ha : a < 18446744073709551616) (hb : b < 18446744073709551616) : bitop .and .u64 (a : Int) (b : Int) = ((a &&& b : Nat) : Int) := bitop_and_nat rfl ha hb
theorem xor_u64 {a b : Nat} (ha : a < 18446744073709551616) (hb : b < 18446744073709551616) : bitop .xor .u64 (a : Int) (b : Int) = ((a ^^^ b : Nat) : Int) := bitop_xor_nat rfl ha hb
theorem or_u32 {a b : Nat} (ha : a < 4294967296) (hb : b < 4294967296) : bitop .or .u32 (a : Int) (b : Int) = ((a ||| b : Nat) : Int) := bitop_or_nat rfl ha hb
theorem and_u32 {a b : Nat} (ha : a < 4294967296) (hb : b < 4294967296) : bitop .and .u32 (a : Int) (b : Int) = ((a &&& b : Nat) : Int) := bitop_and_nat rfl ha hb
theorem xor_u32 {a b : Nat} (ha : a < 4294967296) (hb : b < 4294967296) : bitop .xor .u32 (a : Int) (b : Int) = ((a ^^^ b : Nat) : Int) := bitop_xor_nat rfl ha hb
theorem or_u8 {a b : Nat} (ha : a < 256) (hb : b < 256) : bitop .or .u8 (a : Int) (b : Int) = ((a ||| b : Nat) : Int) := bitop_or_nat rfl ha hb
theorem and_u8 {a b : Nat} (ha : a < 256) (hb : b < 256) : bitop .and .u8 (a : Int) (b : Int) = ((a &&& b : Nat) : Int) := bitop_and_nat rfl ha hb
theorem xor_u8 {a b : Nat} (ha : a < 256) (hb : b < 256) : bitop .xor .u8 (a : Int) (b : Int) = ((a ^^^ b : Nat) : Int) := bitop_xor_nat rfl ha hb

/-- bits that stand apart are added -/
theorem or_add {a b i : Nat} (hb : b < 2 ^ i) : b ||| a * 2 ^ i = b + a * 2 ^ i := by
  rw [← Nat.shiftLeft_eq, Nat.or_comm, ← Nat.shiftLeft_add_eq_or_of_lt hb, Nat.add_comm]

theorem trim_len {h h' : Heap} (hl : h'.length = h.length) (r : TV) : trim h h' r = h' := by
  unfold trim
  split
  · rw [← hl, List.take_length]
  · rfl

/-- a store into a row -/
def storeH (h : Heap) (x : SV) (i : Nat) (v : SV) : Heap := match x with
  | .sl b o _ _ => match h[b]? with | some B => h.set b ⟨B.k, B.c.set (o + i) v⟩ | none => h
  | _ => h

section
variable {h : Heap} {x : SV} {e sz n : Nat} {cs : List SV}
theorem storeH_mod (i : Nat) (v : SV) : Mod (blk x) h (storeH h x i v) := by
  cases x <;> simp only [storeH]
  case sl b o k c =>
    split
    · exact Mod.set h _ rfl
    · exact Mod.refl _ _
  all_goals exact Mod.refl _ _

theorem storeH_own (hx : Own h x e sz n cs) {i : Nat} (hi : i < n * sz) (v : SV) : Own (storeH h x i v) x e sz n (cs.set i v) := by
  rcases hx with ⟨rfl, rfl, rfl⟩ | ⟨b, rfl, hB, hl⟩
  · omega
  · simp only [storeH, hB, Nat.zero_add]
    exact .inr ⟨b, rfl, get_set_same hB, by simp [hl]⟩

theorem storeA_elem (hx : Own h x e sz n cs) {j : Nat} (hj : j < n) (hs : 0 < sz) (v : SV) : storeA h 1 [.sc (elemP x sz j)] [.sc v] = some ([], storeH h x (j * sz) v) := by
  rcases hx with ⟨rfl, rfl, rfl⟩ | ⟨b, rfl, hB, hl⟩
  · omega
  · have hm : (j + 1) * sz ≤ n * sz := Nat.mul_le_mul_right _ hj
    have e2 : (j + 1) * sz = j * sz + sz := by rw [Nat.add_mul, Nat.one_mul]
    simp only [storeA, elemP, hB, AV.cells?, storeH, Nat.zero_add]
    rw [if_pos ⟨by simp, by simp [hl], by omega, rfl⟩]
    simp [setCells]

theorem storeA_field (hx : Own h x e sz n cs) {j off : Nat} (hj : j < n) (ho : off < sz) (v : SV) : storeA h 1 [.sc (fldP (elemP x sz j) off)] [.sc v] = some ([], storeH h x (j * sz + off) v) := by
  rcases hx with ⟨rfl, rfl, rfl⟩ | ⟨b, rfl, hB, hl⟩
  · omega
  · have hm : (j + 1) * sz ≤ n * sz := Nat.mul_le_mul_right _ hj
    have e2 : (j + 1) * sz = j * sz + sz := by rw [Nat.add_mul, Nat.one_mul]
    simp only [storeA, elemP, fldP, hB, AV.cells?, storeH, Nat.zero_add]
    rw [if_pos ⟨by simp, by simp [hl], by omega, rfl⟩]
    simp [setCells]
end

theorem bytes_set (l : List UInt8) (i : Nat) (y : UInt8) : bytes (l.set i y) = (bytes l).set i (.int .u8 (y.toNat : Int)) := by
  apply List.ext_getElem?
  intro j
  simp only [bytes, List.getElem?_map, List.getElem?_set, List.length_map]
  by_cases hj : i = j
  · subst hj
    by_cases hi : i < l.length <;> simp [hi]
  · simp [hj]

-- blocks that a call has made itself
theorem get_loc0 (h t : Heap) : (h ++ t)[h.length]? = t[0]? := by rw [List.getElem?_append_right (Nat.le_refl _), Nat.sub_self]
theorem get_loc (h t : Heap) (k : Nat) : (h ++ t)[h.length + k]? = t[k]? := by rw [List.getElem?_append_right (Nat.le_add_right _ _), Nat.add_sub_cancel_left]
theorem set_loc0 (h t : Heap) (B : Blk) : (h ++ t).set h.length B = h ++ t.set 0 B := by rw [List.set_append_right _ _ (Nat.le_refl _), Nat.sub_self]
theorem set_loc (h t : Heap) (k : Nat) (B : Blk) : (h ++ t).set (h.length + k) B = h ++ t.set k B := by rw [List.set_append_right _ _ (Nat.le_add_right _ _), Nat.add_sub_cancel_left]
attribute [simp] get_loc0 get_loc set_loc0 set_loc
theorem trim_pure {h t : Heap} {r : TV} (hr : pureT r = true) : trim h (h ++ t) r = h := trim_app h t hr

/-- what a run leaves: results, and the heap trimmed -/
def finA (h : Heap) (res : List ARes) : Option (AEx × Env × Heap) → Option (TV × Heap)
  | some (.normal, e, h') => match resA e h' res with | some r => some (r, trim h h' r) | none => none
  | some (.ret, e, h') => match resA e h' res with | some r => some (r, trim h h' r) | none => none
  | _ => none
theorem finA_normal (h : Heap) (res : List ARes) (e : Env) (h' : Heap) : finA h res (some (.normal, e, h')) = match resA e h' res with | some r => some (r, trim h h' r) | none => none := rfl
theorem finA_ret (h : Heap) (res : List ARes) (e : Env) (h' : Heap) : finA h res (some (.ret, e, h')) = match resA e h' res with | some r => some (r, trim h h' r) | none => none := rfl
attribute [simp] finA_normal finA_ret
/-- a call, with what it ends in left open -/
theorem callX {F : Funs} {O : Orc} {f : Nat} {args : List TV} {h hh : Heap} {fn : AFun} {r : TV} (ho : O f args = none) (hf : F f = some fn)
    (hr : ∀ R RO RD RT, Mach F O R RO RD RT → finA h fn.res (R fn.body (envFrom 0 args) h) = some (r, hh)) : callE F O f args h = some (r, hh) := by
  have h1 := hr _ _ _ _ (mach F O)
  unfold finA at h1
  split at h1
  · rename_i e h' hrun
    split at h1
    · rename_i r' hres
      injection h1 with h1
      injection h1 with h1 h2
      subst h1 h2
      exact callE_of ho hf hrun (.inl rfl) hres
    · contradiction
  · rename_i e h' hrun
    split at h1
    · rename_i r' hres
      injection h1 with h1
      injection h1 with h1 h2
      subst h1 h2
      exact callE_of ho hf hrun (.inr rfl) hres
    · contradiction
  · contradiction

theorem wi64' (n : Int) : IntKind.i64.wrap n = (n + 9223372036854775808) % 18446744073709551616 - 9223372036854775808 := by
  have e1 : (2 : Int) ^ IntKind.i64.bits = 18446744073709551616 := by decide
  have e2 : (2 : Int) ^ (IntKind.i64.bits - 1) = 9223372036854775808 := by decide
  have e3 : IntKind.i64.signed = true := rfl
  simp only [IntKind.wrap, e1, e2, e3, Bool.true_and, decide_eq_true_eq]
  split <;> omega
theorem natOf_nat (k : IntKind) (n : Nat) : natOf [.sc (.int k (n : Int))] = some n := by simp [natOf]
attribute [simp] natOf_nat
end Go.Abs
