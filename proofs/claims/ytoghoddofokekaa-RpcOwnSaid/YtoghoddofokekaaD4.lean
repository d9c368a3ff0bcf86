/- Several chapters in one text. -/
import Derived.Test.YtoghoddofokekaaD3
import Derived.Test.YtoghoddofokekaaC5
section
set_option linter.unusedVariables false
set_option linter.unusedSimpArgs false
set_option maxRecDepth 100000
namespace Go.Proofs.Ytoghoddofokekaa
open Go.Abs

theorem rText_laid {l T t : List UInt8} {a : Nat} {most : Int} (hd : l.drop a = (numB T.length ++ T) ++ t) (hT : T.length < 18446744073709551616) (hm : (T.length : Int) ≤ most) : rText l a 0 most = (T, a + (numB T.length ++ T).length, 0) := by
  have e1 := rNum_laid (most := (max most 0).toNat) (by rw [hd, List.append_assoc]) hT (by omega)
  have d1 : l.drop (a + (numB T.length).length) = T ++ t := by rw [← List.drop_drop, hd, List.append_assoc, List.drop_left]
  unfold rText
  rw [e1]
  have hl : ¬ l.length - (a + (numB T.length).length) < T.length := by
    have := congrArg List.length d1
    simp at this
    omega
  simp only [ne_eq, not_true_eq_false, if_false, hl, d1]
  simp
  omega

theorem entB_le {kind conf : Int} {term index : Nat} {T : List UInt8} (h : rightE kind term index T.length conf = true) (ht : term < 18446744073709551616) (hi : index < 18446744073709551616) : (entB kind term index T conf).length ≤ 160 := by
  obtain ⟨hk, hT⟩ := right_kind h
  have := numB_le ht
  have := numB_le hi
  have := numB_le (n := T.length) (by omega)
  unfold entB
  split
  · simp; omega
  · split <;> simp <;> omega

theorem rEnt_laid {kind conf : Int} {term index : Nat} {T : List UInt8} (h : rightE kind term index T.length conf = true) (ht : term < 18446744073709551616) (hi : index < 18446744073709551616) : rEnt (entB kind term index T conf) = (⟨kind, term, index, T, conf⟩, 0) := by
  have hle := entB_le h ht hi
  have hR := h
  obtain ⟨hk, hT⟩ := right_kind h
  unfold rightE at h
  simp only [Bool.and_eq_true, numOk, decide_eq_true_eq] at h
  obtain ⟨⟨hK, _, ht2⟩, _, hi2⟩ := h
  unfold rEnt
  rw [if_neg (by omega)]
  obtain ⟨b, hbd⟩ : ∃ b, b = UInt8.ofNat (kind % 256).toNat := ⟨_, rfl⟩
  have hb := ofNat_small (c := kind) (by omega) (by omega)
  rw [← hbd] at hb
  obtain ⟨R, hRd⟩ : ∃ R, R = (if kind = 1 then numB T.length ++ T else if kind = 2 then [UInt8.ofNat (conf % 256).toNat] else [] : List UInt8) := ⟨_, rfl⟩
  have hE : entB kind term index T conf = b :: (numB term ++ (numB index ++ R)) := by unfold entB; rw [← hbd, ← hRd]
  rw [hE]
  have e1 := rByte_laid (l := b :: (numB term ++ (numB index ++ R))) (a := 0) (most := 2) rfl (by omega)
  have d1 : (b :: (numB term ++ (numB index ++ R))).drop (0 + 1) = numB term ++ (numB index ++ R) := rfl
  have e2 := rNum_laid (most := 72057594037927935) d1 ht ht2
  have d2 : (b :: (numB term ++ (numB index ++ R))).drop (0 + 1 + (numB term).length) = numB index ++ R := by rw [← List.drop_drop, d1, List.drop_left]
  have e3 := rNum_laid (most := 72057594037927935) d2 hi hi2
  have d3 : (b :: (numB term ++ (numB index ++ R))).drop (0 + 1 + (numB term).length + (numB index).length) = R := by rw [← List.drop_drop, d2, List.drop_left]
  simp only [e1, e2, e3]
  have tail : entTail (b :: (numB term ++ (numB index ++ R))) b.toNat (0 + 1 + (numB term).length + (numB index).length) 0 = (T, conf.toNat, 0 + 1 + (numB term).length + (numB index).length + R.length, 0) ∧ 0 ≤ conf := by
    unfold kindE at hK
    unfold entTail
    rcases hk with rfl | rfl | rfl
    · have : ¬ b.toNat = 1 := by omega
      have h2 : ¬ b.toNat = 2 := by omega
      simp at hK
      rw [if_neg this, if_neg h2, hRd]
      simp [hK]
    · have : b.toNat = 1 := by omega
      simp at hK
      rw [if_pos this, rText_laid (T := T) (t := []) (by rw [d3, hRd]; simp) (by omega) (by omega), hRd]
      simp [hK]
    · have : ¬ b.toNat = 1 := by omega
      have h2 : b.toNat = 2 := by omega
      simp [setB] at hK
      rw [if_neg this, if_pos h2]
      have hc := ofNat_small (c := conf) (by omega) (by omega)
      have e4 := rByte_laid (most := 254) (t := []) (by rw [d3, hRd]; rfl) (b := UInt8.ofNat (conf % 256).toNat) (by omega)
      rw [e4, hRd]
      refine ⟨?_, by omega⟩
      simp [hK]
      omega
  obtain ⟨tail, hc0⟩ := tail
  rw [tail]
  have q1 : (b.toNat : Int) = kind := hb
  have q2 : ((conf.toNat : Nat) : Int) = conf := by omega
  have e4 : rEnd (b :: (numB term ++ (numB index ++ R))) (0 + 1 + (numB term).length + (numB index).length + R.length) 0 = 0 := by
    unfold rEnd
    rw [if_neg]
    rintro ⟨_, hlt⟩
    simp at hlt
    omega
  simp only [q1, q2, e4]
  have hr : En.right ⟨kind, term, index, T, conf⟩ = true := hR
  simp [hr]
end Go.Proofs.Ytoghoddofokekaa
end

section
set_option linter.unusedVariables false
set_option linter.unusedSimpArgs false
set_option maxRecDepth 100000
namespace Go.Proofs.Ytoghoddofokekaa
open Go.Abs

def maskM (k : Int) : Nat := if k = 1 then 135 else if k = 2 then 145 else if k = 3 then 527 else if k = 4 then 19 else if k = 5 then 481 else if k = 6 then 97 else 0
def flM (k : Int) (j : Nat) : Bool := (maskM k).testBit j
def pwM : Nat → Int
  | 0 => 1
  | 1 => 2
  | 2 => 4
  | 3 => 8
  | 4 => 16
  | 5 => 32
  | 6 => 64
  | 7 => 128
  | 8 => 256
  | 9 => 512
  | _ => 1024
theorem kindsM (k : Int) : k = 1 ∨ k = 2 ∨ k = 3 ∨ k = 4 ∨ k = 5 ∨ k = 6 ∨ (k < 1 ∨ 6 < k) := by omega
theorem maskM_none {k : Int} (h : k < 1 ∨ 6 < k) : maskM k = 0 := by
  unfold maskM
  repeat rw [if_neg (by omega)]

theorem spec50 (h : Heap) (k : Int) : call 50 [[.sc (.int .i64 k)]] h = some ([.sc (.int .i64 (maskM k))], h) := by
  refine callX rfl (by rfl : F 50 = some M.a50) (fun R RO RD RT E => ?_)
  rcases kindsM k with rfl | rfl | rfl | rfl | rfl | rfl | hk
  case inr.inr.inr.inr.inr.inr =>
    rw [maskM_none hk]
    have e1 : ¬ k = 1 := by omega
    have e2 : ¬ k = 2 := by omega
    have e3 : ¬ k = 3 := by omega
    have e4 : ¬ k = 4 := by omega
    have e5 : ¬ k = 5 := by omega
    have e6 : ¬ k = 6 := by omega
    simp [M.a50, E.eqs, e1, e2, e3, e4, e5, e6]
  all_goals simp [M.a50, E.eqs, maskM] <;> rfl

theorem maskM_bit (k : Int) (j : Nat) (hj : j < 10) : bitop .and .i64 (maskM k : Nat) (pwM j) = if flM k j then pwM j else 0 := by
  have hz : (k < 1 ∨ 6 < k) → bitop .and .i64 (maskM k : Nat) (pwM j) = if flM k j then pwM j else 0 := fun hk => by
    unfold flM
    rw [maskM_none hk]
    rcases (by omega : j = 0 ∨ j = 1 ∨ j = 2 ∨ j = 3 ∨ j = 4 ∨ j = 5 ∨ j = 6 ∨ j = 7 ∨ j = 8 ∨ j = 9) with rfl | rfl | rfl | rfl | rfl | rfl | rfl | rfl | rfl | rfl <;> rfl
  rcases kindsM k with rfl | rfl | rfl | rfl | rfl | rfl | hk
  case inr.inr.inr.inr.inr.inr => exact hz hk
  all_goals rcases (by omega : j = 0 ∨ j = 1 ∨ j = 2 ∨ j = 3 ∨ j = 4 ∨ j = 5 ∨ j = 6 ∨ j = 7 ∨ j = 8 ∨ j = 9) with rfl | rfl | rfl | rfl | rfl | rfl | rfl | rfl | rfl | rfl <;> rfl

theorem pwM_ne {j : Nat} (hj : j < 10) : ¬ pwM j = 0 := by
  rcases (by omega : j = 0 ∨ j = 1 ∨ j = 2 ∨ j = 3 ∨ j = 4 ∨ j = 5 ∨ j = 6 ∨ j = 7 ∨ j = 8 ∨ j = 9) with rfl | rfl | rfl | rfl | rfl | rfl | rfl | rfl | rfl | rfl <;> decide
theorem pwM_lt {j : Nat} (hj : j < 10) : pwM j < 1024 := by
  rcases (by omega : j = 0 ∨ j = 1 ∨ j = 2 ∨ j = 3 ∨ j = 4 ∨ j = 5 ∨ j = 6 ∨ j = 7 ∨ j = 8 ∨ j = 9) with rfl | rfl | rfl | rfl | rfl | rfl | rfl | rfl | rfl | rfl <;> decide
theorem pwM_shl {j : Nat} (hj : j < 10) : IntKind.i64.wrap (pwM j * 2 ^ shAmt .i64 1) = pwM (j + 1) := by
  rcases (by omega : j = 0 ∨ j = 1 ∨ j = 2 ∨ j = 3 ∨ j = 4 ∨ j = 5 ∨ j = 6 ∨ j = 7 ∨ j = 8 ∨ j = 9) with rfl | rfl | rfl | rfl | rfl | rfl | rfl | rfl | rfl | rfl <;> rfl

def nodeB (n : Int) : Bool := decide (1 ≤ n) && decide (n ≤ 7)
theorem spec51 (h : Heap) (n : Int) : call 51 [[.sc (.int .i64 n)]] h = some ([.sc (.bool (nodeB n))], h) := by
  refine callX rfl (by rfl : F 51 = some M.a51) (fun R RO RD RT E => ?_)
  unfold nodeB
  by_cases c1 : 1 ≤ n
  · simp [M.a51, E.eqs, c1]
  · simp [M.a51, E.eqs, c1]

def ofM (k : Int) : List UInt8 :=
  if k = 1 then [105, 110, 100, 101, 120, 32, 108, 111, 103, 116, 101, 114, 109, 32, 108, 97, 115, 116]
  else if k = 2 then [114, 101, 102, 117, 115, 101, 100, 32, 108, 97, 115, 116]
  else if k = 3 then [105, 110, 100, 101, 120, 32, 108, 111, 103, 116, 101, 114, 109, 32, 99, 111, 109, 109, 105, 116, 32, 101, 110, 116, 114, 105, 101, 115]
  else if k = 4 then [105, 110, 100, 101, 120, 32, 114, 101, 102, 117, 115, 101, 100]
  else if k = 5 then [98, 97, 115, 101, 32, 111, 102, 102, 115, 101, 116, 32, 108, 97, 115, 116, 32, 100, 97, 116, 97]
  else if k = 6 then [98, 97, 115, 101, 32, 111, 102, 102, 115, 101, 116]
  else []
abbrev m_index : List UInt8 := [105, 110, 100, 101, 120]
abbrev m_logterm : List UInt8 := [108, 111, 103, 116, 101, 114, 109]
abbrev m_commit : List UInt8 := [99, 111, 109, 109, 105, 116]
abbrev m_refused : List UInt8 := [114, 101, 102, 117, 115, 101, 100]
abbrev m_base : List UInt8 := [98, 97, 115, 101]
abbrev m_offset : List UInt8 := [111, 102, 102, 115, 101, 116]
abbrev m_last : List UInt8 := [108, 97, 115, 116]
abbrev m_data : List UInt8 := [100, 97, 116, 97]
abbrev m_entries : List UInt8 := [101, 110, 116, 114, 105, 101, 115]
theorem ofM_none {k : Int} (h : k < 1 ∨ 6 < k) : ofM k = [] := by
  unfold ofM
  repeat rw [if_neg (by omega)]
theorem ofM_len (k : Int) : (ofM k).length ≤ 40 := by
  rcases kindsM k with rfl | rfl | rfl | rfl | rfl | rfl | hk
  case inr.inr.inr.inr.inr.inr => rw [ofM_none hk]; decide
  all_goals decide
theorem ofM_mask (k : Int) : (ofM k).isEmpty = decide (maskM k = 0) := by
  rcases kindsM k with rfl | rfl | rfl | rfl | rfl | rfl | hk
  case inr.inr.inr.inr.inr.inr => rw [ofM_none hk, maskM_none hk]; decide
  all_goals decide
theorem flM0 {k : Int} (h : maskM k ≠ 0) : flM k 0 = true := by
  rcases kindsM k with rfl | rfl | rfl | rfl | rfl | rfl | hk
  case inr.inr.inr.inr.inr.inr => exact absurd (maskM_none hk) h
  all_goals decide
theorem spec54 (h : Heap) (k : Int) : call 54 [[.sc (.int .i64 k)]] h = some ([.sc (.str (ofM k))], h) := by
  refine callX rfl (by rfl : F 54 = some M.a54) (fun R RO RD RT E => ?_)
  rcases kindsM k with rfl | rfl | rfl | rfl | rfl | rfl | hk
  case inr.inr.inr.inr.inr.inr =>
    rw [ofM_none hk]
    by_cases h1 : k < 1
    · simp [M.a54, E.eqs, h1, fldA, freshB, loadA, storeA, trim_pure, pureT, pureV, pureS]
    · have h2 : 6 < k := by omega
      simp [M.a54, E.eqs, h1, h2, fldA, freshB, loadA, storeA, trim_pure, pureT, pureV, pureS]
  all_goals simp [M.a54, E.eqs, fldA, freshB, loadA, storeA, trim_pure, pureT, pureV, pureS, ofM]
theorem hasM_index (k : Int) : hasL (ofM k) m_index = flM k 1 := by
  rcases kindsM k with rfl | rfl | rfl | rfl | rfl | rfl | hk
  case inr.inr.inr.inr.inr.inr => unfold flM; rw [ofM_none hk, maskM_none hk]; decide
  all_goals decide
theorem hasM_logterm (k : Int) : hasL (ofM k) m_logterm = flM k 2 := by
  rcases kindsM k with rfl | rfl | rfl | rfl | rfl | rfl | hk
  case inr.inr.inr.inr.inr.inr => unfold flM; rw [ofM_none hk, maskM_none hk]; decide
  all_goals decide
theorem hasM_commit (k : Int) : hasL (ofM k) m_commit = flM k 3 := by
  rcases kindsM k with rfl | rfl | rfl | rfl | rfl | rfl | hk
  case inr.inr.inr.inr.inr.inr => unfold flM; rw [ofM_none hk, maskM_none hk]; decide
  all_goals decide
theorem hasM_refused (k : Int) : hasL (ofM k) m_refused = flM k 4 := by
  rcases kindsM k with rfl | rfl | rfl | rfl | rfl | rfl | hk
  case inr.inr.inr.inr.inr.inr => unfold flM; rw [ofM_none hk, maskM_none hk]; decide
  all_goals decide
theorem hasM_base (k : Int) : hasL (ofM k) m_base = flM k 5 := by
  rcases kindsM k with rfl | rfl | rfl | rfl | rfl | rfl | hk
  case inr.inr.inr.inr.inr.inr => unfold flM; rw [ofM_none hk, maskM_none hk]; decide
  all_goals decide
theorem hasM_offset (k : Int) : hasL (ofM k) m_offset = flM k 6 := by
  rcases kindsM k with rfl | rfl | rfl | rfl | rfl | rfl | hk
  case inr.inr.inr.inr.inr.inr => unfold flM; rw [ofM_none hk, maskM_none hk]; decide
  all_goals decide
theorem hasM_last (k : Int) : hasL (ofM k) m_last = flM k 7 := by
  rcases kindsM k with rfl | rfl | rfl | rfl | rfl | rfl | hk
  case inr.inr.inr.inr.inr.inr => unfold flM; rw [ofM_none hk, maskM_none hk]; decide
  all_goals decide
theorem hasM_data (k : Int) : hasL (ofM k) m_data = flM k 8 := by
  rcases kindsM k with rfl | rfl | rfl | rfl | rfl | rfl | hk
  case inr.inr.inr.inr.inr.inr => unfold flM; rw [ofM_none hk, maskM_none hk]; decide
  all_goals decide
theorem hasM_entries (k : Int) : hasL (ofM k) m_entries = flM k 9 := by
  rcases kindsM k with rfl | rfl | rfl | rfl | rfl | rfl | hk
  case inr.inr.inr.inr.inr.inr => unfold flM; rw [ofM_none hk, maskM_none hk]; decide
  all_goals decide

/-- a base that may be -/
def baseB (i t : Nat) (c : Int) : Bool := (numOk i && numOk t) && setB c
theorem spec57 (h : Heap) (i t : Nat) (c : Int) : call 57 [[.agg [.int .u64 i, .int .u64 t, .int .i64 c]]] h = some ([.sc (.bool (baseB i t c))], h) := by
  have n1 := fun h => spec55 h true i
  have n2 := fun h => spec55 h true t
  have q := fun h => spec94 h c
  have sp := set_split c
  refine callX rfl (by rfl : F 57 = some M.a57) (fun R RO RD RT E => ?_)
  unfold baseB
  rw [← sp]
  simp only [numR, if_true] at n1 n2
  generalize numOk i = t1 at *
  generalize numOk t = t2 at *
  generalize setR0 c = t3 at *
  cases t1
  · simp [M.a57, E.eqs, fldA, freshB, loadA, trim_pure, pureT, pureV, pureS, n1]
  · cases t2
    · simp [M.a57, E.eqs, fldA, freshB, loadA, trim_pure, pureT, pureV, pureS, n1, n2]
    · cases t3
      · simp [M.a57, E.eqs, fldA, freshB, loadA, trim_pure, pureT, pureV, pureS, n1, n2, q]
      · simp [M.a57, E.eqs, fldA, freshB, loadA, trim_pure, pureT, pureV, pureS, n1, n2, q]
end Go.Proofs.Ytoghoddofokekaa
end

section
set_option linter.unusedVariables false
set_option linter.unusedSimpArgs false
set_option maxRecDepth 100000
namespace Go.Proofs.Ytoghoddofokekaa
open Go.Abs

/-- the cells of entries in a row -/
def entC (es : List (En × SV)) : List SV := es.flatMap fun z => z.1.c z.2
theorem entC_length : ∀ es : List (En × SV), (entC es).length = es.length * 5
  | [] => rfl
  | z :: es => by
    have := entC_length es
    unfold entC at *
    rw [List.flatMap_cons, List.length_append, this, List.length_cons]
    have : (z.1.c z.2).length = 5 := rfl
    omega
theorem entC_get : ∀ {es : List (En × SV)} {i : Nat} {z : En × SV}, es[i]? = some z → ((entC es).drop (i * 5)).take 5 = z.1.c z.2
  | [], i, z, h => by simp at h
  | y :: es, 0, z, h => by
    simp at h
    subst h
    unfold entC
    rw [List.flatMap_cons]
    rfl
  | y :: es, i + 1, z, h => by
    have := entC_get (es := es) (i := i) (z := z) (by simpa using h)
    unfold entC at *
    rw [List.flatMap_cons, Nat.succ_mul, Nat.add_comm, ← List.drop_drop]
    have e : (y.1.c y.2 ++ es.flatMap fun z => z.1.c z.2).drop 5 = es.flatMap fun z => z.1.c z.2 := rfl
    rw [e]
    exact this

/-- entries that stand in a row, each with its data -/
structure EsAt (h : Heap) (x : SV) (es : List (En × SV)) : Prop where
  row : Row h x 5 es.length (entC es)
  dat : ∀ z ∈ es, Row h z.2 1 z.1.T.length (Go.Abs.bytes z.1.T)
  trm : ∀ z ∈ es, z.1.term < 18446744073709551616 ∧ z.1.index < 18446744073709551616
theorem EsAt.mod {h h' : Heap} {x : SV} {es : List (En × SV)} (a : EsAt h x es) (m : Mod (fun _ => False) h h') : EsAt h' x es :=
  ⟨a.row.mod m fun _ _ h => h, fun z hz => (a.dat z hz).mod m fun _ _ h => h, a.trm⟩

theorem loadA_ent {h : Heap} {x : SV} {es : List (En × SV)} (hx : Row h x 5 es.length (entC es)) {i : Nat} {z : En × SV} (hz : es[i]? = some z) : loadA h true 5 [.sc (elemP x 5 i)] = some ([.agg (z.1.c z.2)], h) := by
  have hi : i < es.length := (List.getElem?_eq_some_iff.1 hz).1
  have hc := entC_get hz
  rcases hx with ⟨rfl, h0, _⟩ | ⟨b, o, c, B, rfl, hB, g1, g2, _, g4⟩
  · omega
  · simp only [loadA, elemP, hB]
    rw [if_pos ⟨g1, by omega⟩]
    rw [← g4, List.drop_take, List.take_take, List.drop_drop] at hc
    rw [Nat.min_eq_left (by omega)] at hc
    simp [hc]

/-- do they follow? from the i-th on, behind a term t -/
def followF (index term : Nat) : List En → Nat → Nat → Bool
  | [], _, _ => true
  | e :: r, i, t => (((e.right && decide (e.index = (index + i + 1) % 18446744073709551616)) && !decide (e.term < t)) && !decide (term < e.term)) && followF index term r (i + 1) e.term
end Go.Proofs.Ytoghoddofokekaa
end

section
set_option linter.unusedVariables false
set_option linter.unusedSimpArgs false
set_option maxRecDepth 100000
namespace Go.Proofs.Ytoghoddofokekaa
open Go.Abs

theorem Mod.tail {h h' : Heap} (m : Mod (fun _ => False) h h') : ∃ t, h' = h ++ t := by
  refine ⟨h'.drop h.length, List.ext_getElem? fun j => ?_⟩
  by_cases hj : j < h.length
  · rw [List.getElem?_append_left hj]
    exact m.2 j hj fun h => h
  · rw [List.getElem?_append_right (by omega), List.getElem?_drop]
    congr 1
    omega
theorem Mod.trim_pure {h h' : Heap} (m : Mod (fun _ => False) h h') (b : Bool) : Go.Abs.trim h h' [.sc (.bool b)] = h := by
  obtain ⟨t, rfl⟩ := Mod.tail m
  exact Go.Abs.trim_pure rfl

section
variable {hb : Heap} {p index term : Nat} {cs : List SV} {xe : SV} {es : List (En × SV)}

set_option maxHeartbeats 1000000 in
theorem follow_loop (hp : hb[p]? = some ⟨.var, cs⟩) (hl : cs.length = 15) (h3 : ∀ hh, cs[3]'hh = .int .u64 term) (h4 : ∀ hh, cs[4]'hh = .int .u64 index) (hE : EsAt hb xe es) (hn : es.length ≤ 4) (hix : index < 18446744073709551616) : ∀ (m i : Nat) (H : Heap) (t : Nat) (e : Env), i + m = es.length → Mod (fun _ => False) hb H →
    e.get 1 = [.sc (.ptr p 0 15)] → e.get 3 = [.sc (.int .u64 t)] → e.get 13 = [.sc xe] → e.get 14 = [.sc (.int .i64 es.length)] → e.get 15 = [.sc (.int .i64 i)] →
    ∃ H' e', loopE F O (.loop [1, 3, 13, 14, 15] M.b103_0) e H = some (if followF index term ((es.drop i).map (·.1)) i t then (.exit 0, e', H') else (.ret, [(2, [.sc (.bool false)])], H')) ∧ Mod (fun _ => False) hb H'
  | 0, i, H, t, e, hi, mH, e1, e3, e13, e14, e15 => by
    have hd : es.drop i = [] := List.drop_eq_nil_of_le (by omega)
    have c1 : ¬ (i : Int) < es.length := by omega
    rw [hd]
    refine ⟨H, [(1, [.sc (.ptr p 0 15)]), (3, [.sc (.int .u64 t)]), (13, [.sc xe]), (14, [.sc (.int .i64 es.length)]), (15, [.sc (.int .i64 i)]), (16, [.sc (.bool false)])], exitM fun R RO RD RT E => ?_, mH⟩
    have c2 : ¬ i < es.length := by omega
    simp [M.b103_0, E.eqs, e1, e3, e13, e14, e15, c1, c2, show followF index term [] i t = true from rfl]
  | m + 1, i, H, t, e, hi, mH, e1, e3, e13, e14, e15 => by
    have hlt : i < es.length := by omega
    obtain ⟨z, hz⟩ : ∃ z, es[i]? = some z := ⟨_, List.getElem?_eq_getElem hlt⟩
    have hd : es.drop i = z :: es.drop (i + 1) := by
      rw [List.drop_eq_getElem_cons hlt]
      congr 1
      rw [List.getElem?_eq_getElem hlt] at hz
      injection hz
    have hzm := List.mem_of_getElem? hz
    have hEH := hE.mod mH
    have ld := loadA_ent hEH.row hz
    have ix := ixsA_row hEH.row hlt
    obtain ⟨H1, hH1⟩ : ∃ H1 : Heap, H1 = H ++ [⟨.var, z.1.c z.2⟩] := ⟨_, rfl⟩
    have m1 : Mod (fun _ => False) H H1 := by rw [hH1]; exact Mod.app _ _ _
    have b1 : H1[H.length]? = some ⟨.var, z.1.c z.2⟩ := by rw [hH1]; simp
    have mH1 := mH.trans m1 fun _ _ h => h
    have bp := mH1.get hp fun h => h
    have qr : call 42 [[.agg (z.1.c z.2)]] H1 = some ([.sc (.bool z.1.right)], H1) := spec42 ((hEH.dat z hzm).mod m1 fun _ _ h => h)
    have trm := hE.trm z hzm
    have d0 : setCells [.int .i64 0, .int .u64 0, .int .u64 0, .nils, .int .i64 0] 0 (z.1.c z.2) = z.1.c z.2 := rfl
    have d1 : (z.1.c z.2).length = 5 := rfl
    have d2 : (z.1.c z.2).take 5 = z.1.c z.2 := rfl
    have d3 : ∀ hh, (z.1.c z.2)[1]'hh = .int .u64 z.1.term := fun _ => rfl
    have d4 : ∀ hh, (z.1.c z.2)[2]'hh = .int .u64 z.1.index := fun _ => rfl
    obtain ⟨H', e', lo, mm⟩ := follow_loop hp hl h3 h4 hE hn hix m (i + 1) H1 z.1.term [(1, [.sc (.ptr p 0 15)]), (3, [.sc (.int .u64 z.1.term)]), (13, [.sc xe]), (14, [.sc (.int .i64 es.length)]), (15, [.sc (.int .i64 ((i + 1 : Nat) : Int))])] (by omega) mH1 rfl rfl rfl rfl rfl
    have c1 : (i : Int) < es.length := by omega
    have w1 : IntKind.i64.wrap ((i : Int) + 1) = (i : Int) + 1 := wi64 (by omega) (by omega)
    have w2 : IntKind.u64.wrap (i : Int) = i := wu64 (by omega) (by omega)
    obtain ⟨nx, hnx⟩ : ∃ nx, nx = (index + i + 1) % 18446744073709551616 := ⟨_, rfl⟩
    have w3 : IntKind.u64.wrap (IntKind.u64.wrap ((index : Int) + i) + 1) = (nx : Int) := by rw [wu64', wu64', hnx]; omega
    rw [hd, List.map_cons]
    unfold followF
    rw [← hnx]
    generalize z.1.c z.2 = zc at *
    have l1 : loadA H1 false 1 [.sc (.ptr H.length 1 5)] = some ([.sc (.int .u64 z.1.term)], H1) := by simp [loadA, b1, d1, d3]
    have l2 : loadA H1 false 1 [.sc (.ptr H.length 2 5)] = some ([.sc (.int .u64 z.1.index)], H1) := by simp [loadA, b1, d1, d4]
    have l5 : loadA H1 true 5 [.sc (.ptr H.length 0 5)] = some ([.agg zc], H1) := by simp [loadA, b1, d1, d2]
    have lp3 : loadA H1 false 1 [.sc (.ptr p 3 15)] = some ([.sc (.int .u64 term)], H1) := by simp [loadA, bp, hl, h3]
    have lp4 : loadA H1 false 1 [.sc (.ptr p 4 15)] = some ([.sc (.int .u64 index)], H1) := by simp [loadA, bp, hl, h4]
    by_cases a1 : z.1.right = true
    · by_cases a2 : z.1.index = nx
      · by_cases a3 : z.1.term < t
        · refine ⟨H1, [], by
            rw [if_neg (by simp [a3])]
            refine retM fun R RO RD RT E => ?_
            clear lo
            simp [M.b103_0, E.eqs, e1, e3, e13, e14, e15, hlt, ix, ld, d0, ← hH1, freshB, fldA, storeA, b1, bp, hl, d1, l1, l2, l5, lp3, lp4, qr, w1, w2, w3, a1, a2, a3], mH1⟩
        · by_cases a4 : term < z.1.term
          · refine ⟨H1, [], by
              rw [if_neg (by simp [a4])]
              refine retM fun R RO RD RT E => ?_
              clear lo
              simp [M.b103_0, E.eqs, e1, e3, e13, e14, e15, hlt, ix, ld, d0, ← hH1, freshB, fldA, storeA, b1, bp, hl, d1, l1, l2, l5, lp3, lp4, qr, w1, w2, w3, a1, a2, a3, a4], mH1⟩
          · refine ⟨H', e', ?_, mm⟩
            have e : ((((z.1.right && decide (z.1.index = nx)) && !decide (z.1.term < t)) && !decide (term < z.1.term)) && followF index term ((es.drop (i + 1)).map (·.1)) (i + 1) z.1.term) = followF index term ((es.drop (i + 1)).map (·.1)) (i + 1) z.1.term := by simp [a1, a2, a3, a4]
            rw [e]
            refine stepM (fun R RO RD RT E => ?_) lo
            clear lo
            simp [M.b103_0, E.eqs, e1, e3, e13, e14, e15, hlt, ix, ld, d0, ← hH1, freshB, fldA, storeA, b1, bp, hl, d1, l1, l2, l5, lp3, lp4, qr, w1, w2, w3, a1, a2, a3, a4]
      · refine ⟨H1, [], by
          rw [if_neg (by simp [a2])]
          refine retM fun R RO RD RT E => ?_
          clear lo
          simp [M.b103_0, E.eqs, e1, e3, e13, e14, e15, hlt, ix, ld, d0, ← hH1, freshB, fldA, storeA, b1, bp, hl, d1, l1, l2, l5, lp3, lp4, qr, w1, w2, w3, a1, a2], mH1⟩
    · refine ⟨H1, [], by
        rw [if_neg (by simp [a1])]
        refine retM fun R RO RD RT E => ?_
        clear lo
        simp [M.b103_0, E.eqs, e1, e3, e13, e14, e15, hlt, ix, ld, d0, ← hH1, freshB, fldA, storeA, b1, bp, hl, d1, l1, l2, l5, lp3, lp4, qr, w1, w2, w3, a1], mH1⟩

def followB (index term lt : Nat) (es : List En) : Bool := decide (es.length ≤ 4) && followF index term es 0 lt

theorem spec103 {h : Heap} {lt : Nat} (hl : cs.length = 15) (ht : cs.take 15 = cs) (h3 : ∀ hh, cs[3]'hh = .int .u64 term) (h4 : ∀ hh, cs[4]'hh = .int .u64 index) (h5 : ∀ hh, cs[5]'hh = .int .u64 lt) (h6 : ∀ hh, cs[6]'hh = xe) (hE : EsAt h xe es) (hix : index < 18446744073709551616) :
    call 103 [[.agg cs]] h = some ([.sc (.bool (followB index term lt (es.map (·.1))))], h) := by
  obtain ⟨hb, hhb⟩ : ∃ hb : Heap, hb = h ++ [⟨.var, cs⟩] := ⟨_, rfl⟩
  have mb : Mod (fun _ => False) h hb := by rw [hhb]; exact Mod.app _ _ _
  have bb : hb[h.length]? = some ⟨.var, cs⟩ := by rw [hhb]; simp
  have l6 : loadA hb false 1 [.sc (.ptr h.length 6 15)] = some ([.sc xe], hb) := by simp [loadA, bb, hl, h6]
  have l5 : loadA hb false 1 [.sc (.ptr h.length 5 15)] = some ([.sc (.int .u64 lt)], hb) := by simp [loadA, bb, hl, h5]
  have ln := lenA_row (hE.mod mb).row
  unfold followB
  rw [List.length_map]
  by_cases hn : es.length ≤ 4
  · obtain ⟨H', e', lo, mm⟩ := follow_loop bb hl h3 h4 (hE.mod mb) hn hix es.length 0 hb lt [(1, [.sc (.ptr h.length 0 15)]), (3, [.sc (.int .u64 lt)]), (13, [.sc xe]), (14, [.sc (.int .i64 es.length)]), (15, [.sc (.int .i64 0)])] (by omega) (Mod.refl _ _) rfl rfl rfl rfl rfl
    have lo := loop_run lo
    rw [List.drop_zero] at lo
    have tr : ∀ b : Bool, trim h H' [.sc (.bool b)] = h := fun b => Mod.trim_pure (mb.trans mm fun _ _ h => h) b
    have hn' : ¬ (4 : Int) < es.length := by omega
    refine callX rfl (by rfl : F 103 = some M.a103) (fun R RO RD RT E => ?_)
    have lo := E.run lo
    cases hf : followF index term (es.map (·.1)) 0 lt
    · rw [hf] at lo
      simp only [Bool.false_eq_true, if_false] at lo
      simp [M.a103, E.eqs, ← hhb, fldA, freshB, bb, hl, l6, l5, ln, hn, hn', lo, tr]
    · rw [hf] at lo
      simp only [if_true] at lo
      simp [M.a103, E.eqs, ← hhb, fldA, freshB, bb, hl, l6, l5, ln, hn, hn', lo, tr]
  · have hn' : (4 : Int) < es.length := by omega
    have tr : trim h hb [.sc (.bool false)] = h := by rw [hhb]; exact trim_pure rfl
    refine callX rfl (by rfl : F 103 = some M.a103) (fun R RO RD RT E => ?_)
    simp [M.a103, E.eqs, ← hhb, fldA, freshB, bb, hl, l6, ln, hn, hn', tr]
end
end Go.Proofs.Ytoghoddofokekaa
end

section
set_option linter.unusedVariables false
set_option linter.unusedSimpArgs false
set_option maxRecDepth 100000
namespace Go.Proofs.Ytoghoddofokekaa
open Go.Abs

section
variable {hb : Heap} {p index term : Nat} {cs : List SV} {xe : SV} {es : List (En × SV)}

set_option maxHeartbeats 1000000 in
theorem ents_loop (hp : hb[p]? = some ⟨.var, cs⟩) (hl : cs.length = 15) (h3 : ∀ hh, cs[3]'hh = .int .u64 term) (h4 : ∀ hh, cs[4]'hh = .int .u64 index) (h6 : ∀ hh, cs[6]'hh = xe) (hE : EsAt hb xe es) (hn : es.length ≤ 2513169434844) (hix : index < 18446744073709551616) : ∀ (m i : Nat) (H : Heap) (t : Nat) (e : Env), i + m = es.length → Mod (fun _ => False) hb H →
    e.get 1 = [.sc (.ptr p 0 15)] → e.get 3 = [.sc (.int .u64 t)] → e.get 4 = [.sc (.int .i64 i)] →
    ∃ (H' : Heap) (e' : Env), loopE F O (.loop [1, 3, 4] M.b58_0) e H = some (if followF index term ((es.drop i).map (·.1)) i t then (.exit 0, e', H') else (.ret, [(2, [.sc (.bool false)])], H')) ∧ Mod (fun _ => False) hb H' ∧ e'.get 1 = [.sc (.ptr p 0 15)]
  | 0, i, H, t, e, hi, mH, e1, e3, e4 => by
    have hd : es.drop i = [] := List.drop_eq_nil_of_le (by omega)
    have c1 : ¬ (i : Int) < es.length := by omega
    rw [hd]
    refine ⟨H, [(1, [.sc (.ptr p 0 15)]), (3, [.sc (.int .u64 t)]), (4, [.sc (.int .i64 i)]), (12, [.sc (.bool false)])], exitM fun R RO RD RT E => ?_, mH, rfl⟩
    have c2 : ¬ i < es.length := by omega
    have bp := mH.get hp fun h => h
    have l6 : loadA H false 1 [.sc (.ptr p 6 15)] = some ([.sc xe], H) := by simp [loadA, bp, hl, h6]
    have ln := lenA_row (hE.mod mH).row
    simp [M.b58_0, E.eqs, e1, e3, e4, c1, c2, fldA, freshB, bp, hl, l6, ln, show followF index term [] i t = true from rfl]
  | m + 1, i, H, t, e, hi, mH, e1, e3, e4 => by
    have hlt : i < es.length := by omega
    obtain ⟨z, hz⟩ : ∃ z, es[i]? = some z := ⟨_, List.getElem?_eq_getElem hlt⟩
    have hd : es.drop i = z :: es.drop (i + 1) := by
      rw [List.drop_eq_getElem_cons hlt]
      congr 1
      rw [List.getElem?_eq_getElem hlt] at hz
      injection hz
    have hzm := List.mem_of_getElem? hz
    have hEH := hE.mod mH
    have ld := loadA_ent hEH.row hz
    have ix := ixsA_row hEH.row hlt
    have ln := lenA_row hEH.row
    have bp0 := mH.get hp fun h => h
    have l6 : loadA H false 1 [.sc (.ptr p 6 15)] = some ([.sc xe], H) := by simp [loadA, bp0, hl, h6]
    obtain ⟨H1, hH1⟩ : ∃ H1 : Heap, H1 = H ++ [⟨.var, z.1.c z.2⟩] := ⟨_, rfl⟩
    have m1 : Mod (fun _ => False) H H1 := by rw [hH1]; exact Mod.app _ _ _
    have b1 : H1[H.length]? = some ⟨.var, z.1.c z.2⟩ := by rw [hH1]; simp
    have mH1 := mH.trans m1 fun _ _ h => h
    have bp := mH1.get hp fun h => h
    have qr : call 43 [[.agg (z.1.c z.2)]] H1 = some ([.sc (.bool z.1.right)], H1) := spec43 ((hEH.dat z hzm).mod m1 fun _ _ h => h)
    have trm := hE.trm z hzm
    have d0 : setCells [.int .i64 0, .int .u64 0, .int .u64 0, .nils, .int .i64 0] 0 (z.1.c z.2) = z.1.c z.2 := rfl
    have d1 : (z.1.c z.2).length = 5 := rfl
    have d2 : (z.1.c z.2).take 5 = z.1.c z.2 := rfl
    have d3 : ∀ hh, (z.1.c z.2)[1]'hh = .int .u64 z.1.term := fun _ => rfl
    have d4 : ∀ hh, (z.1.c z.2)[2]'hh = .int .u64 z.1.index := fun _ => rfl
    obtain ⟨H', e', lo, mm⟩ := ents_loop hp hl h3 h4 h6 hE hn hix m (i + 1) H1 z.1.term [(1, [.sc (.ptr p 0 15)]), (3, [.sc (.int .u64 z.1.term)]), (4, [.sc (.int .i64 ((i + 1 : Nat) : Int))])] (by omega) mH1 rfl rfl rfl
    have c1 : (i : Int) < es.length := by omega
    have w1 : IntKind.i64.wrap ((i : Int) + 1) = (i : Int) + 1 := wi64 (by omega) (by omega)
    have w2 : IntKind.u64.wrap (i : Int) = i := wu64 (by omega) (by omega)
    obtain ⟨nx, hnx⟩ : ∃ nx, nx = (index + i + 1) % 18446744073709551616 := ⟨_, rfl⟩
    have w3 : IntKind.u64.wrap (IntKind.u64.wrap ((index : Int) + 1) + i) = (nx : Int) := by rw [wu64', wu64', hnx]; omega
    rw [hd, List.map_cons]
    unfold followF
    rw [← hnx]
    generalize z.1.c z.2 = zc at *
    have l1 : loadA H1 false 1 [.sc (.ptr H.length 1 5)] = some ([.sc (.int .u64 z.1.term)], H1) := by simp [loadA, b1, d1, d3]
    have l2 : loadA H1 false 1 [.sc (.ptr H.length 2 5)] = some ([.sc (.int .u64 z.1.index)], H1) := by simp [loadA, b1, d1, d4]
    have l5 : loadA H1 true 5 [.sc (.ptr H.length 0 5)] = some ([.agg zc], H1) := by simp [loadA, b1, d1, d2]
    have lp3 : loadA H1 false 1 [.sc (.ptr p 3 15)] = some ([.sc (.int .u64 term)], H1) := by simp [loadA, bp, hl, h3]
    have lp4 : loadA H1 false 1 [.sc (.ptr p 4 15)] = some ([.sc (.int .u64 index)], H1) := by simp [loadA, bp, hl, h4]
    by_cases a1 : z.1.right = true
    · by_cases a2 : z.1.index = nx
      · by_cases a3 : z.1.term < t
        · refine ⟨H1, [(1, [.sc (.ptr p 0 15)])], by
            rw [if_neg (by simp [a3])]
            refine retM fun R RO RD RT E => ?_
            clear lo
            simp [M.b58_0, E.eqs, e1, e3, e4, hlt, c1, ix, ln, bp0, l6, ld, d0, ← hH1, freshB, fldA, storeA, b1, bp, hl, d1, l1, l2, l5, lp3, lp4, qr, w1, w2, w3, a1, a2, a3], mH1, rfl⟩
        · by_cases a4 : term < z.1.term
          · refine ⟨H1, [(1, [.sc (.ptr p 0 15)])], by
              rw [if_neg (by simp [a4])]
              refine retM fun R RO RD RT E => ?_
              clear lo
              simp [M.b58_0, E.eqs, e1, e3, e4, hlt, c1, ix, ln, bp0, l6, ld, d0, ← hH1, freshB, fldA, storeA, b1, bp, hl, d1, l1, l2, l5, lp3, lp4, qr, w1, w2, w3, a1, a2, a3, a4], mH1, rfl⟩
          · refine ⟨H', e', ?_, mm⟩
            have e : ((((z.1.right && decide (z.1.index = nx)) && !decide (z.1.term < t)) && !decide (term < z.1.term)) && followF index term ((es.drop (i + 1)).map (·.1)) (i + 1) z.1.term) = followF index term ((es.drop (i + 1)).map (·.1)) (i + 1) z.1.term := by simp [a1, a2, a3, a4]
            rw [e]
            refine stepM (fun R RO RD RT E => ?_) lo
            clear lo
            simp [M.b58_0, E.eqs, e1, e3, e4, hlt, c1, ix, ln, bp0, l6, ld, d0, ← hH1, freshB, fldA, storeA, b1, bp, hl, d1, l1, l2, l5, lp3, lp4, qr, w1, w2, w3, a1, a2, a3, a4]
      · refine ⟨H1, [(1, [.sc (.ptr p 0 15)])], by
          rw [if_neg (by simp [a2])]
          refine retM fun R RO RD RT E => ?_
          clear lo
          simp [M.b58_0, E.eqs, e1, e3, e4, hlt, c1, ix, ln, bp0, l6, ld, d0, ← hH1, freshB, fldA, storeA, b1, bp, hl, d1, l1, l2, l5, lp3, lp4, qr, w1, w2, w3, a1, a2], mH1, rfl⟩
    · refine ⟨H1, [(1, [.sc (.ptr p 0 15)])], by
        rw [if_neg (by simp [a1])]
        refine retM fun R RO RD RT E => ?_
        clear lo
        simp [M.b58_0, E.eqs, e1, e3, e4, hlt, c1, ix, ln, bp0, l6, ld, d0, ← hH1, freshB, fldA, storeA, b1, bp, hl, d1, l1, l2, l5, lp3, lp4, qr, w1, w2, w3, a1], mH1, rfl⟩

theorem spec58 {h : Heap} {lt : Nat} (hl : cs.length = 15) (ht : cs.take 15 = cs) (h3 : ∀ hh, cs[3]'hh = .int .u64 term) (h4 : ∀ hh, cs[4]'hh = .int .u64 index) (h5 : ∀ hh, cs[5]'hh = .int .u64 lt) (h6 : ∀ hh, cs[6]'hh = xe) (hE : EsAt h xe es) (hn : es.length ≤ 2513169434844) (hix : index < 18446744073709551616) :
    call 58 [[.agg cs]] h = some ([.sc (.bool (followB index term lt (es.map (·.1))))], h) := by
  obtain ⟨hb, hhb⟩ : ∃ hb : Heap, hb = h ++ [⟨.var, cs⟩] := ⟨_, rfl⟩
  have mb : Mod (fun _ => False) h hb := by rw [hhb]; exact Mod.app _ _ _
  have bb : hb[h.length]? = some ⟨.var, cs⟩ := by rw [hhb]; simp
  have l5 : loadA hb false 1 [.sc (.ptr h.length 5 15)] = some ([.sc (.int .u64 lt)], hb) := by simp [loadA, bb, hl, h5]
  obtain ⟨H', e', lo, mm, g1⟩ : ∃ (H' : Heap) (e' : Env), loopE F O (.loop [1, 3, 4] M.b58_0) [(1, [.sc (.ptr h.length 0 15)]), (3, [.sc (.int .u64 lt)]), (4, [.sc (.int .i64 0)])] hb = some (if followF index term ((es.drop 0).map (·.1)) 0 lt then (.exit 0, e', H') else (.ret, [(2, [.sc (.bool false)])], H')) ∧ Mod (fun _ => False) hb H' ∧ e'.get 1 = [.sc (.ptr h.length 0 15)] := by
    exact ents_loop bb hl h3 h4 h6 (hE.mod mb) hn hix es.length 0 hb lt [(1, [.sc (.ptr h.length 0 15)]), (3, [.sc (.int .u64 lt)]), (4, [.sc (.int .i64 0)])] (by omega) (Mod.refl _ _) rfl rfl rfl
  have lo := loop_run lo
  rw [List.drop_zero] at lo
  have tr : ∀ b : Bool, trim h H' [.sc (.bool b)] = h := fun b => Mod.trim_pure (mb.trans mm fun _ _ h => h) b
  have bp := mm.get bb fun h => h
  have l6 : loadA H' false 1 [.sc (.ptr h.length 6 15)] = some ([.sc xe], H') := by simp [loadA, bp, hl, h6]
  have ln := lenA_row ((hE.mod mb).mod mm).row
  unfold followB
  rw [List.length_map]
  refine callX rfl (by rfl : F 58 = some M.a58) (fun R RO RD RT E => ?_)
  have lo := E.run lo
  cases hf : followF index term (es.map (·.1)) 0 lt
  · rw [hf] at lo
    simp only [Bool.false_eq_true, if_false] at lo
    simp [M.a58, E.eqs, ← hhb, fldA, freshB, bb, hl, l5, lo, tr]
  · rw [hf] at lo
    simp only [if_true] at lo
    by_cases hn4 : (es.length : Int) ≤ 4
    · have hn5 : es.length ≤ 4 := by omega
      simp [M.a58, E.eqs, ← hhb, fldA, freshB, bb, hl, l5, lo, tr, g1, bp, l6, ln, hn4, hn5]
    · have hn5 : ¬ es.length ≤ 4 := by omega
      simp [M.a58, E.eqs, ← hhb, fldA, freshB, bb, hl, l5, lo, tr, g1, bp, l6, ln, hn4, hn5]
end
end Go.Proofs.Ytoghoddofokekaa
end

section
set_option linter.unusedVariables false
set_option linter.unusedSimpArgs false
set_option maxRecDepth 100000
namespace Go.Proofs.Ytoghoddofokekaa
open Go.Abs

/-- a message's parts -/
structure Ms where
  k : Int
  f : Int
  t : Int
  term : Nat
  index : Nat
  lt : Nat
  es : List (En × SV)
  cm : Nat
  rf : Bool
  bi : Nat
  bt : Nat
  bc : Int
  off : Int
  D : List UInt8
  la : Bool
def Ms.cells (m : Ms) (xe xd : SV) : List SV := [.int .i64 m.k, .int .i64 m.f, .int .i64 m.t, .int .u64 m.term, .int .u64 m.index, .int .u64 m.lt, xe, .int .u64 m.cm, .bool m.rf, .int .u64 m.bi, .int .u64 m.bt, .int .i64 m.bc, .int .i64 m.off, xd, .bool m.la]
def Ms.ents (m : Ms) : List En := m.es.map (·.1)

/-- where its rows stand -/
structure MsAt (h : Heap) (m : Ms) (xe xd : SV) : Prop where
  es : EsAt h xe m.es
  dat : Row h xd 1 m.D.length (Go.Abs.bytes m.D)
  ix : m.index < 18446744073709551616
  nes : m.es.length ≤ 2513169434844
  nd : m.D.length ≤ 140737488351232
theorem MsAt.mod {h h' : Heap} {m : Ms} {xe xd : SV} (a : MsAt h m xe xd) (md : Mod (fun _ => False) h h') : MsAt h' m xe xd := ⟨a.es.mod md, a.dat.mod md fun _ _ h => h, a.ix, a.nes, a.nd⟩

def mostB (n : Nat) : Bool := decide (n ≤ 72057594037927935)
def offB (n : Int) : Bool := decide (0 ≤ n) && decide (n ≤ 32768)
def fitsM (m : Ms) : Nat → Bool
  | 0 => numOk m.term
  | 1 => mostB m.index
  | 2 => mostB m.lt
  | 3 => mostB m.cm
  | 5 => baseB m.bi m.bt m.bc
  | 6 => offB m.off
  | 8 => decide (m.D.length ≤ 256)
  | 9 => followB m.index m.term m.lt m.ents
  | _ => true
def bareM (m : Ms) : Nat → Bool
  | 0 => decide (m.term = 0)
  | 1 => decide (m.index = 0)
  | 2 => decide (m.lt = 0)
  | 3 => decide (m.cm = 0)
  | 4 => !m.rf
  | 5 => decide (m.bi = 0 ∧ m.bt = 0 ∧ m.bc = 0)
  | 6 => decide (m.off = 0)
  | 7 => !m.la
  | 8 => decide (m.D.length = 0)
  | _ => decide (m.es.length = 0)

section
variable {h : Heap} {m : Ms} {xe xd : SV}

theorem j10 {j : Nat} (hj : j < 10) : j = 0 ∨ j = 1 ∨ j = 2 ∨ j = 3 ∨ j = 4 ∨ j = 5 ∨ j = 6 ∨ j = 7 ∨ j = 8 ∨ j = 9 := by omega

set_option maxHeartbeats 1000000 in
theorem spec53 (a : MsAt h m xe xd) {j : Nat} (hj : j < 10) : call 53 [[.agg (m.cells xe xd)], [.sc (.int .i64 (pwM j))]] h = some ([.sc (.bool (bareM m j))], h) := by
  obtain ⟨hb, hhb⟩ : ∃ hb : Heap, hb = h ++ [⟨.var, m.cells xe xd⟩] := ⟨_, rfl⟩
  have mb : Mod (fun _ => False) h hb := by rw [hhb]; exact Mod.app _ _ _
  have bb : hb[h.length]? = some ⟨.var, m.cells xe xd⟩ := by rw [hhb]; simp
  have tr : ∀ b, trim h hb [.sc (.bool b)] = h := fun b => Mod.trim_pure mb b
  have ab := a.mod mb
  have l1 := lenA_row ab.dat
  have l2 := lenA_row ab.es.row
  refine callX rfl (by rfl : F 53 = some M.a53) (fun R RO RD RT E => ?_)
  unfold Ms.cells at *
  rcases j10 hj with rfl | rfl | rfl | rfl | rfl | rfl | rfl | rfl | rfl | rfl <;>
    simp [M.a53, E.eqs, ← hhb, bb, tr, fldA, freshB, loadA, pwM, bareM, l1, l2]

set_option maxHeartbeats 1000000 in
theorem spec52 (a : MsAt h m xe xd) {j : Nat} (hj : j < 10) : call 52 [[.agg (m.cells xe xd)], [.sc (.int .i64 (pwM j))]] h = some ([.sc (.bool (fitsM m j))], h) := by
  obtain ⟨hb, hhb⟩ : ∃ hb : Heap, hb = h ++ [⟨.var, m.cells xe xd⟩] := ⟨_, rfl⟩
  have mb : Mod (fun _ => False) h hb := by rw [hhb]; exact Mod.app _ _ _
  have bb : hb[h.length]? = some ⟨.var, m.cells xe xd⟩ := by rw [hhb]; simp
  have tr : ∀ b, trim h hb [.sc (.bool b)] = h := fun b => Mod.trim_pure mb b
  have ab := a.mod mb
  have l1 := lenA_row ab.dat
  have n1 := spec93 hb m.term
  have n2 := spec93 hb m.bi
  have n3 := spec93 hb m.bt
  have n4 := spec92 hb m.bc
  have fo := spec103 (cs := m.cells xe xd) (term := m.term) (index := m.index) (lt := m.lt) rfl rfl (fun _ => rfl) (fun _ => rfl) (fun _ => rfl) (fun _ => rfl) ab.es a.ix
  have w1 : ((m.index : Int) ≤ 72057594037927935) ↔ m.index ≤ 72057594037927935 := by omega
  have w2 : ((m.lt : Int) ≤ 72057594037927935) ↔ m.lt ≤ 72057594037927935 := by omega
  have w3 : ((m.cm : Int) ≤ 72057594037927935) ↔ m.cm ≤ 72057594037927935 := by omega
  have w4 : ((m.D.length : Int) ≤ 256) ↔ m.D.length ≤ 256 := by omega
  refine callX rfl (by rfl : F 52 = some M.a52) (fun R RO RD RT E => ?_)
  unfold Ms.cells at *
  rcases j10 hj with rfl | rfl | rfl | rfl | rfl | rfl | rfl | rfl | rfl | rfl
  · simp [M.a52, E.eqs, ← hhb, bb, tr, fldA, freshB, loadA, pwM, fitsM, n1]
  · simp [M.a52, E.eqs, ← hhb, bb, tr, fldA, freshB, loadA, pwM, fitsM, mostB, w1]
  · simp [M.a52, E.eqs, ← hhb, bb, tr, fldA, freshB, loadA, pwM, fitsM, mostB, w2]
  · simp [M.a52, E.eqs, ← hhb, bb, tr, fldA, freshB, loadA, pwM, fitsM, mostB, w3]
  · simp [M.a52, E.eqs, ← hhb, bb, tr, fldA, freshB, loadA, pwM, fitsM]
  · unfold fitsM baseB
    generalize numOk m.bi = t1 at *
    generalize numOk m.bt = t2 at *
    cases t1
    · simp [M.a52, E.eqs, ← hhb, bb, tr, fldA, freshB, loadA, pwM, n2]
    · cases t2
      · simp [M.a52, E.eqs, ← hhb, bb, tr, fldA, freshB, loadA, pwM, n2, n3]
      · simp [M.a52, E.eqs, ← hhb, bb, tr, fldA, freshB, loadA, pwM, n2, n3, n4]
  · by_cases h0 : 0 ≤ m.off
    · simp [M.a52, E.eqs, ← hhb, bb, tr, fldA, freshB, loadA, pwM, fitsM, offB, h0]
    · simp [M.a52, E.eqs, ← hhb, bb, tr, fldA, freshB, loadA, pwM, fitsM, offB, h0]
  · simp [M.a52, E.eqs, ← hhb, bb, tr, fldA, freshB, loadA, pwM, fitsM]
  · simp [M.a52, E.eqs, ← hhb, bb, tr, fldA, freshB, loadA, pwM, fitsM, l1, w4]
  · simp [M.a52, E.eqs, ← hhb, bb, tr, fldA, freshB, loadA, pwM, fitsM, fo, Ms.ents]
end
end Go.Proofs.Ytoghoddofokekaa
end

section
set_option linter.unusedVariables false
set_option linter.unusedSimpArgs false
set_option maxRecDepth 100000
namespace Go.Proofs.Ytoghoddofokekaa
open Go.Abs

def fldOkM (m : Ms) (j : Nat) : Bool := if flM m.k j then fitsM m j else bareM m j
def fromOkM (m : Ms) : Nat → Nat → Bool
  | 0, _ => true
  | n + 1, j => fldOkM m j && fromOkM m n (j + 1)
def headM (m : Ms) : Bool := ((decide (maskM m.k ≠ 0) && nodeB m.f) && nodeB m.t) && decide (m.f ≠ m.t)
/-- may it be? -/
def rightM (m : Ms) : Bool := headM m && fromOkM m 10 0

section
variable {hb : Heap} {p : Nat} {m : Ms} {xe xd : SV}

set_option maxHeartbeats 1000000 in
theorem rightM_loop (hp : hb[p]? = some ⟨.var, m.cells xe xd⟩) (a : MsAt hb m xe xd) : ∀ (n j : Nat) (e : Env), j + n = 10 → e.get 1 = [.sc (.ptr p 0 15)] → e.get 3 = [.sc (.int .i64 (maskM m.k))] → e.get 4 = [.sc (.int .i64 (pwM j))] →
    ∃ e', loopE F O (.loop [1, 3, 4] M.b24_0) e hb = some (if fromOkM m n j then (.exit 0, e', hb) else (.ret, [(2, [.sc (.bool false)])], hb))
  | 0, j, e, hj, e1, e3, e4 => by
    have : j = 10 := by omega
    subst this
    refine ⟨[(1, [.sc (.ptr p 0 15)]), (3, [.sc (.int .i64 (maskM m.k))]), (4, [.sc (.int .i64 1024)]), (30, [.sc (.bool false)])], exitM fun R RO RD RT E => ?_⟩
    have p7 : pwM 10 = 1024 := rfl
    rw [p7] at e4
    simp [M.b24_0, E.eqs, e1, e3, e4, show fromOkM m 0 10 = true from rfl]
  | n + 1, j, e, hj, e1, e3, e4 => by
    have hlt : j < 10 := by omega
    obtain ⟨e', ih⟩ := rightM_loop hp a n (j + 1) [(1, [.sc (.ptr p 0 15)]), (3, [.sc (.int .i64 (maskM m.k))]), (4, [.sc (.int .i64 (pwM (j + 1)))])] (by omega) rfl rfl rfl
    have q1 := spec52 a hlt
    have q2 := spec53 a hlt
    have mb := maskM_bit m.k j hlt
    have p1 := pwM_ne hlt
    have p2 := pwM_lt hlt
    have p3 := pwM_shl hlt
    generalize pwM (j + 1) = pn at *
    generalize pwM j = pj at *
    have hlen : (m.cells xe xd).length = 15 := rfl
    have ht : (m.cells xe xd).take 15 = m.cells xe xd := rfl
    have ld : loadA hb true 15 [.sc (.ptr p 0 15)] = some ([.agg (m.cells xe xd)], hb) := by simp [loadA, hp, hlen, ht]
    unfold fromOkM fldOkM
    generalize m.cells xe xd = cs at *
    cases hf : flM m.k j
    · rw [hf] at mb
      simp only [Bool.false_eq_true, if_false] at mb ⊢
      cases hb' : bareM m j
      · rw [hb'] at q2
        refine ⟨[], retM fun R RO RD RT E => ?_⟩
        simp [M.b24_0, E.eqs, e1, e3, e4, p1, p2, mb, q1, q2, ld]
      · rw [hb'] at q2
        rw [Bool.true_and]
        refine ⟨e', stepM (fun R RO RD RT E => ?_) ih⟩
        clear ih
        simp [M.b24_0, E.eqs, e1, e3, e4, p1, p2, p3, mb, q1, q2, ld]
    · rw [hf] at mb
      simp only [if_true] at mb ⊢
      cases hb' : fitsM m j
      · rw [hb'] at q1
        refine ⟨[], retM fun R RO RD RT E => ?_⟩
        simp [M.b24_0, E.eqs, e1, e3, e4, p1, p2, mb, q1, q2, ld]
      · rw [hb'] at q1
        rw [Bool.true_and]
        refine ⟨e', stepM (fun R RO RD RT E => ?_) ih⟩
        clear ih
        simp [M.b24_0, E.eqs, e1, e3, e4, p1, p2, p3, mb, q1, q2, ld]

set_option maxHeartbeats 1000000 in
theorem spec24 {h : Heap} (a : MsAt h m xe xd) : call 24 [[.agg (m.cells xe xd)]] h = some ([.sc (.bool (rightM m))], h) := by
  obtain ⟨hb, hhb⟩ : ∃ hb : Heap, hb = h ++ [⟨.var, m.cells xe xd⟩] := ⟨_, rfl⟩
  have mb : Mod (fun _ => False) h hb := by rw [hhb]; exact Mod.app _ _ _
  have bb : hb[h.length]? = some ⟨.var, m.cells xe xd⟩ := by rw [hhb]; simp
  have tr : ∀ b, trim h hb [.sc (.bool b)] = h := fun b => Mod.trim_pure mb b
  obtain ⟨e', lo⟩ := rightM_loop bb (a.mod mb) 10 0 [(1, [.sc (.ptr h.length 0 15)]), (3, [.sc (.int .i64 (maskM m.k))]), (4, [.sc (.int .i64 1)])] (by omega) rfl rfl rfl
  have lo := loop_run lo
  have q := spec50 hb m.k
  have n1 := spec51 hb m.f
  have n2 := spec51 hb m.t
  have hlen : (m.cells xe xd).length = 15 := rfl
  have l0 : loadA hb false 1 [.sc (.ptr h.length 0 15)] = some ([.sc (.int .i64 m.k)], hb) := by simp [loadA, bb, hlen]; rfl
  have l1 : loadA hb false 1 [.sc (.ptr h.length 1 15)] = some ([.sc (.int .i64 m.f)], hb) := by simp [loadA, bb, hlen]; rfl
  have l2 : loadA hb false 1 [.sc (.ptr h.length 2 15)] = some ([.sc (.int .i64 m.t)], hb) := by simp [loadA, bb, hlen]; rfl
  refine callX rfl (by rfl : F 24 = some M.a24) (fun R RO RD RT E => ?_)
  have lo := E.run lo
  unfold rightM headM
  generalize m.cells xe xd = cs at *
  generalize nodeB m.f = b1 at *
  generalize nodeB m.t = b2 at *
  by_cases hm : maskM m.k = 0
  · simp [M.a24, E.eqs, ← hhb, bb, hlen, fldA, freshB, l0, q, hm, tr]
  · cases b1
    · simp [M.a24, E.eqs, ← hhb, bb, hlen, fldA, freshB, l0, l1, q, hm, n1, tr]
    · cases b2
      · simp [M.a24, E.eqs, ← hhb, bb, hlen, fldA, freshB, l0, l1, l2, q, hm, n1, n2, tr]
      · by_cases hft : m.f = m.t
        · simp [M.a24, E.eqs, ← hhb, bb, hlen, fldA, freshB, l0, l1, l2, q, hm, n1, n2, hft, tr]
        · cases hf : fromOkM m 10 0
          · rw [hf] at lo
            simp only [Bool.false_eq_true, if_false] at lo
            simp [M.a24, E.eqs, ← hhb, bb, hlen, fldA, freshB, l0, l1, l2, q, hm, n1, n2, hft, lo, tr]
          · rw [hf] at lo
            simp only [if_true] at lo
            simp [M.a24, E.eqs, ← hhb, bb, hlen, fldA, freshB, l0, l1, l2, q, hm, n1, n2, hft, lo, tr]
end
end Go.Proofs.Ytoghoddofokekaa
end

section
set_option linter.unusedVariables false
set_option linter.unusedSimpArgs false
set_option maxRecDepth 100000
namespace Go.Proofs.Ytoghoddofokekaa
open Go.Abs

section
variable {hb : Heap} {p : Nat} {m : Ms} {xe xd : SV}

/-- the document's first questions -/
def ask1 (m : Ms) : Bool := !(ofM m.k).isEmpty && (nodeB m.f && (nodeB m.t && (!decide (m.f = m.t) && (numOk m.term && (mostB m.index && (mostB m.lt && mostB m.cm))))))

set_option maxHeartbeats 4000000 in
theorem ask1_run (hp : hb[p]? = some ⟨.var, m.cells xe xd⟩) : ∃ e', runE F O (sqh (sqd 2 M.a25.body)) [(1, [.sc (.ptr p 0 15)]), (3, [.sc (.str (ofM m.k))])] hb = some (if ask1 m then (.normal, [(1, [.sc (.ptr p 0 15)]), (3, [.sc (.str (ofM m.k))]), (56, [.sc (.bool false)])], hb) else (.ret, e', hb)) ∧ e' = [(2, [.sc (.bool false)])] := by
  refine ⟨_, runM fun R RO RD RT E => ?_, rfl⟩
  have hlen : (m.cells xe xd).length = 15 := rfl
  have l1 : loadA hb false 1 [.sc (.ptr p 1 15)] = some ([.sc (.int .i64 m.f)], hb) := by simp [loadA, hp, hlen]; rfl
  have l2 : loadA hb false 1 [.sc (.ptr p 2 15)] = some ([.sc (.int .i64 m.t)], hb) := by simp [loadA, hp, hlen]; rfl
  have l3 : loadA hb false 1 [.sc (.ptr p 3 15)] = some ([.sc (.int .u64 m.term)], hb) := by simp [loadA, hp, hlen]; rfl
  have l4 : loadA hb false 1 [.sc (.ptr p 4 15)] = some ([.sc (.int .u64 m.index)], hb) := by simp [loadA, hp, hlen]; rfl
  have l5 : loadA hb false 1 [.sc (.ptr p 5 15)] = some ([.sc (.int .u64 m.lt)], hb) := by simp [loadA, hp, hlen]; rfl
  have l7 : loadA hb false 1 [.sc (.ptr p 7 15)] = some ([.sc (.int .u64 m.cm)], hb) := by simp [loadA, hp, hlen]; rfl
  have fr : freshB hb p 15 = true := freshB_of hp rfl
  have n1 := spec55 hb true m.term
  simp only [numR, if_true] at n1
  unfold ask1 nodeB mostB
  generalize ofM m.k = o at *
  generalize numOk m.term = b3 at *
  by_cases ho : o = []
  · subst ho
    simp [M.a25, sqd, sqh, E.eqs]
  · have hoe : o.isEmpty = false := by cases o with
      | nil => exact absurd rfl ho
      | cons a l => rfl
    have hob : (o == []) = false := by cases o with
      | nil => exact absurd rfl ho
      | cons a l => rfl
    by_cases f1 : m.f < 1
    · have f1' : ¬ 1 ≤ m.f := by omega
      simp [M.a25, sqd, sqh, E.eqs, ho, hoe, hob, fldA, fr, l1, f1, f1']
    · have f1' : 1 ≤ m.f := by omega
      by_cases f2 : 7 < m.f
      · have f2' : ¬ m.f ≤ 7 := by omega
        simp [M.a25, sqd, sqh, E.eqs, ho, hoe, hob, fldA, fr, l1, f1, f1', f2, f2']
      · have f2' : m.f ≤ 7 := by omega
        by_cases t1 : m.t < 1
        · have t1' : ¬ 1 ≤ m.t := by omega
          simp [M.a25, sqd, sqh, E.eqs, ho, hoe, hob, fldA, fr, l1, l2, f1, f1', f2, f2', t1, t1']
        · have t1' : 1 ≤ m.t := by omega
          by_cases t2 : 7 < m.t
          · have t2' : ¬ m.t ≤ 7 := by omega
            simp [M.a25, sqd, sqh, E.eqs, ho, hoe, hob, fldA, fr, l1, l2, f1, f1', f2, f2', t1, t1', t2, t2']
          · have t2' : m.t ≤ 7 := by omega
            by_cases hft : m.f = m.t
            · simp [M.a25, sqd, sqh, E.eqs, ho, hoe, hob, fldA, fr, l1, l2, hft, t1, t1', t2, t2']
            · cases b3
              · simp [M.a25, sqd, sqh, E.eqs, ho, hoe, hob, fldA, fr, l1, l2, l3, f1, f1', f2, f2', t1, t1', t2, t2', hft, n1]
              · by_cases i1 : (72057594037927935 : Int) < m.index
                · have i1' : ¬ m.index ≤ 72057594037927935 := by omega
                  simp [M.a25, sqd, sqh, E.eqs, ho, hoe, hob, fldA, fr, l1, l2, l3, l4, f1, f1', f2, f2', t1, t1', t2, t2', hft, n1, i1, i1']
                · have i1' : m.index ≤ 72057594037927935 := by omega
                  by_cases i2 : (72057594037927935 : Int) < m.lt
                  · have i2' : ¬ m.lt ≤ 72057594037927935 := by omega
                    simp [M.a25, sqd, sqh, E.eqs, ho, hoe, hob, fldA, fr, l1, l2, l3, l4, l5, f1, f1', f2, f2', t1, t1', t2, t2', hft, n1, i1, i1', i2, i2']
                  · have i2' : m.lt ≤ 72057594037927935 := by omega
                    by_cases i3 : (72057594037927935 : Int) < m.cm
                    · have i3' : ¬ m.cm ≤ 72057594037927935 := by omega
                      simp [M.a25, sqd, sqh, E.eqs, ho, hoe, hob, fldA, fr, l1, l2, l3, l4, l5, l7, f1, f1', f2, f2', t1, t1', t2, t2', hft, n1, i1, i1', i2, i2', i3, i3']
                    · have i3' : m.cm ≤ 72057594037927935 := by omega
                      simp [M.a25, sqd, sqh, E.eqs, ho, hoe, hob, fldA, fr, l1, l2, l3, l4, l5, l7, f1, f1', f2, f2', t1, t1', t2, t2', hft, n1, i1, i1', i2, i2', i3, i3']
end
end Go.Proofs.Ytoghoddofokekaa
end

section
set_option linter.unusedVariables false
set_option linter.unusedSimpArgs false
set_option maxRecDepth 100000
namespace Go.Proofs.Ytoghoddofokekaa
open Go.Abs

section
variable {hb : Heap} {p : Nat} {m : Ms} {xe xd : SV}
def ask2 (m : Ms) : Bool := (flM m.k 1 || decide (m.index = 0)) && ((flM m.k 2 || decide (m.lt = 0)) && ((flM m.k 3 || decide (m.cm = 0)) && ((flM m.k 9 || decide (m.es.length = 0)) && ((flM m.k 4 || !m.rf) && ((flM m.k 7 || !m.la) && (flM m.k 8 || decide (m.D.length = 0)))))))

set_option maxHeartbeats 4000000 in
theorem ask2_run (hp : hb[p]? = some ⟨.var, m.cells xe xd⟩) (a : MsAt hb m xe xd) (hk : maskM m.k ≠ 0) : ∃ e', runE F O (sqh (sqd 3 M.a25.body)) [(1, [.sc (.ptr p 0 15)]), (3, [.sc (.str (ofM m.k))]), (56, [.sc (.bool false)])] hb = some (if ask2 m then (.normal, [(1, [.sc (.ptr p 0 15)]), (3, [.sc (.str (ofM m.k))]), (124, [.sc (.bool false)])], hb) else (.ret, e', hb)) ∧ e' = [(2, [.sc (.bool false)])] := by
  refine ⟨_, runM fun R RO RD RT E => ?_, rfl⟩
  have hlen : (m.cells xe xd).length = 15 := rfl
  have l4 : loadA hb false 1 [.sc (.ptr p 4 15)] = some ([.sc (.int .u64 m.index)], hb) := by simp [loadA, hp, hlen]; rfl
  have l5 : loadA hb false 1 [.sc (.ptr p 5 15)] = some ([.sc (.int .u64 m.lt)], hb) := by simp [loadA, hp, hlen]; rfl
  have l6 : loadA hb false 1 [.sc (.ptr p 6 15)] = some ([.sc xe], hb) := by simp [loadA, hp, hlen]; rfl
  have l7 : loadA hb false 1 [.sc (.ptr p 7 15)] = some ([.sc (.int .u64 m.cm)], hb) := by simp [loadA, hp, hlen]; rfl
  have l8 : loadA hb false 1 [.sc (.ptr p 8 15)] = some ([.sc (.bool m.rf)], hb) := by simp [loadA, hp, hlen]; rfl
  have l13 : loadA hb false 1 [.sc (.ptr p 13 15)] = some ([.sc xd], hb) := by simp [loadA, hp, hlen]; rfl
  have l14 : loadA hb false 1 [.sc (.ptr p 14 15)] = some ([.sc (.bool m.la)], hb) := by simp [loadA, hp, hlen]; rfl
  have fr : freshB hb p 15 = true := freshB_of hp rfl
  have le := lenA_row a.es.row
  have ld := lenA_row a.dat
  have hl : (ofM m.k).length < 1000 := by have := ofM_len m.k; omega
  have q1 := spec56 hb (w := m_index) hl
  rw [hasM_index] at q1
  have q2 := spec56 hb (w := m_logterm) hl
  rw [hasM_logterm] at q2
  have q3 := spec56 hb (w := m_commit) hl
  rw [hasM_commit] at q3
  have q9 := spec56 hb (w := m_entries) hl
  rw [hasM_entries] at q9
  have q4 := spec56 hb (w := m_refused) hl
  rw [hasM_refused] at q4
  have q7 := spec56 hb (w := m_last) hl
  rw [hasM_last] at q7
  have q8 := spec56 hb (w := m_data) hl
  rw [hasM_data] at q8
  have hs : m.k = 1 ∨ m.k = 2 ∨ m.k = 3 ∨ m.k = 4 ∨ m.k = 5 ∨ m.k = 6 := by
    rcases kindsM m.k with h | h | h | h | h | h | h
    case inr.inr.inr.inr.inr.inr => exact absurd (maskM_none h) hk
    all_goals omega
  unfold ask2
  generalize ofM m.k = o at *
  generalize m.es.length = ne at *
  generalize m.D.length = nd at *
  generalize m.rf = rf at *
  generalize m.la = la at *
  rcases hs with hs | hs | hs | hs | hs | hs <;> rw [hs] at q1 q2 q3 q9 q4 q7 q8 ⊢
  · have v1 : flM 1 1 = true := by decide
    have v2 : flM 1 2 = true := by decide
    have v3 : flM 1 3 = false := by decide
    have v9 : flM 1 9 = false := by decide
    have v4 : flM 1 4 = false := by decide
    have v7 : flM 1 7 = true := by decide
    have v8 : flM 1 8 = false := by decide
    rw [v1] at q1
    rw [v2] at q2
    rw [v3] at q3
    rw [v9] at q9
    rw [v4] at q4
    rw [v7] at q7
    rw [v8] at q8
    simp only [v1, v2, v3, v4, v7, v8, v9]
    clear hs hk v1 v2 v3 v4 v7 v8 v9
    by_cases hc : m.cm = 0
    case neg =>
      simp [M.a25, sqd, sqh, E.eqs, fldA, fr, l4, l5, l6, l7, l8, l13, l14, le, ld, q1, q2, q3, q9, q4, q7, q8, hc]
    by_cases he : ne = 0
    case neg =>
      have ge : (0 : Int) < ne := by omega
      simp [M.a25, sqd, sqh, E.eqs, fldA, fr, l4, l5, l6, l7, l8, l13, l14, le, ld, q1, q2, q3, q9, q4, q7, q8, hc, he, ge, Nat.pos_of_ne_zero he]
    cases rf
    case true => simp [M.a25, sqd, sqh, E.eqs, fldA, fr, l4, l5, l6, l7, l8, l13, l14, le, ld, q1, q2, q3, q9, q4, q7, q8, hc, he]
    by_cases hd : nd = 0
    case neg =>
      have gd : (0 : Int) < nd := by omega
      simp [M.a25, sqd, sqh, E.eqs, fldA, fr, l4, l5, l6, l7, l8, l13, l14, le, ld, q1, q2, q3, q9, q4, q7, q8, hc, he, hd, gd, Nat.pos_of_ne_zero hd]
    simp [M.a25, sqd, sqh, E.eqs, fldA, fr, l4, l5, l6, l7, l8, l13, l14, le, ld, q1, q2, q3, q9, q4, q7, q8, hc, he, hd]
  · have v1 : flM 2 1 = false := by decide
    have v2 : flM 2 2 = false := by decide
    have v3 : flM 2 3 = false := by decide
    have v9 : flM 2 9 = false := by decide
    have v4 : flM 2 4 = true := by decide
    have v7 : flM 2 7 = true := by decide
    have v8 : flM 2 8 = false := by decide
    rw [v1] at q1
    rw [v2] at q2
    rw [v3] at q3
    rw [v9] at q9
    rw [v4] at q4
    rw [v7] at q7
    rw [v8] at q8
    simp only [v1, v2, v3, v4, v7, v8, v9]
    clear hs hk v1 v2 v3 v4 v7 v8 v9
    by_cases hi : m.index = 0
    case neg =>
      simp [M.a25, sqd, sqh, E.eqs, fldA, fr, l4, l5, l6, l7, l8, l13, l14, le, ld, q1, q2, q3, q9, q4, q7, q8, hi]
    by_cases hl : m.lt = 0
    case neg =>
      simp [M.a25, sqd, sqh, E.eqs, fldA, fr, l4, l5, l6, l7, l8, l13, l14, le, ld, q1, q2, q3, q9, q4, q7, q8, hi, hl]
    by_cases hc : m.cm = 0
    case neg =>
      simp [M.a25, sqd, sqh, E.eqs, fldA, fr, l4, l5, l6, l7, l8, l13, l14, le, ld, q1, q2, q3, q9, q4, q7, q8, hi, hl, hc]
    by_cases he : ne = 0
    case neg =>
      have ge : (0 : Int) < ne := by omega
      simp [M.a25, sqd, sqh, E.eqs, fldA, fr, l4, l5, l6, l7, l8, l13, l14, le, ld, q1, q2, q3, q9, q4, q7, q8, hi, hl, hc, he, ge, Nat.pos_of_ne_zero he]
    by_cases hd : nd = 0
    case neg =>
      have gd : (0 : Int) < nd := by omega
      simp [M.a25, sqd, sqh, E.eqs, fldA, fr, l4, l5, l6, l7, l8, l13, l14, le, ld, q1, q2, q3, q9, q4, q7, q8, hi, hl, hc, he, hd, gd, Nat.pos_of_ne_zero hd]
    simp [M.a25, sqd, sqh, E.eqs, fldA, fr, l4, l5, l6, l7, l8, l13, l14, le, ld, q1, q2, q3, q9, q4, q7, q8, hi, hl, hc, he, hd]
  · have v1 : flM 3 1 = true := by decide
    have v2 : flM 3 2 = true := by decide
    have v3 : flM 3 3 = true := by decide
    have v9 : flM 3 9 = true := by decide
    have v4 : flM 3 4 = false := by decide
    have v7 : flM 3 7 = false := by decide
    have v8 : flM 3 8 = false := by decide
    rw [v1] at q1
    rw [v2] at q2
    rw [v3] at q3
    rw [v9] at q9
    rw [v4] at q4
    rw [v7] at q7
    rw [v8] at q8
    simp only [v1, v2, v3, v4, v7, v8, v9]
    clear hs hk v1 v2 v3 v4 v7 v8 v9
    cases rf
    case true => simp [M.a25, sqd, sqh, E.eqs, fldA, fr, l4, l5, l6, l7, l8, l13, l14, le, ld, q1, q2, q3, q9, q4, q7, q8]
    cases la
    case true => simp [M.a25, sqd, sqh, E.eqs, fldA, fr, l4, l5, l6, l7, l8, l13, l14, le, ld, q1, q2, q3, q9, q4, q7, q8]
    by_cases hd : nd = 0
    case neg =>
      have gd : (0 : Int) < nd := by omega
      simp [M.a25, sqd, sqh, E.eqs, fldA, fr, l4, l5, l6, l7, l8, l13, l14, le, ld, q1, q2, q3, q9, q4, q7, q8, hd, gd, Nat.pos_of_ne_zero hd]
    simp [M.a25, sqd, sqh, E.eqs, fldA, fr, l4, l5, l6, l7, l8, l13, l14, le, ld, q1, q2, q3, q9, q4, q7, q8, hd]
  · have v1 : flM 4 1 = true := by decide
    have v2 : flM 4 2 = false := by decide
    have v3 : flM 4 3 = false := by decide
    have v9 : flM 4 9 = false := by decide
    have v4 : flM 4 4 = true := by decide
    have v7 : flM 4 7 = false := by decide
    have v8 : flM 4 8 = false := by decide
    rw [v1] at q1
    rw [v2] at q2
    rw [v3] at q3
    rw [v9] at q9
    rw [v4] at q4
    rw [v7] at q7
    rw [v8] at q8
    simp only [v1, v2, v3, v4, v7, v8, v9]
    clear hs hk v1 v2 v3 v4 v7 v8 v9
    by_cases hl : m.lt = 0
    case neg =>
      simp [M.a25, sqd, sqh, E.eqs, fldA, fr, l4, l5, l6, l7, l8, l13, l14, le, ld, q1, q2, q3, q9, q4, q7, q8, hl]
    by_cases hc : m.cm = 0
    case neg =>
      simp [M.a25, sqd, sqh, E.eqs, fldA, fr, l4, l5, l6, l7, l8, l13, l14, le, ld, q1, q2, q3, q9, q4, q7, q8, hl, hc]
    by_cases he : ne = 0
    case neg =>
      have ge : (0 : Int) < ne := by omega
      simp [M.a25, sqd, sqh, E.eqs, fldA, fr, l4, l5, l6, l7, l8, l13, l14, le, ld, q1, q2, q3, q9, q4, q7, q8, hl, hc, he, ge, Nat.pos_of_ne_zero he]
    cases la
    case true => simp [M.a25, sqd, sqh, E.eqs, fldA, fr, l4, l5, l6, l7, l8, l13, l14, le, ld, q1, q2, q3, q9, q4, q7, q8, hl, hc, he]
    by_cases hd : nd = 0
    case neg =>
      have gd : (0 : Int) < nd := by omega
      simp [M.a25, sqd, sqh, E.eqs, fldA, fr, l4, l5, l6, l7, l8, l13, l14, le, ld, q1, q2, q3, q9, q4, q7, q8, hl, hc, he, hd, gd, Nat.pos_of_ne_zero hd]
    simp [M.a25, sqd, sqh, E.eqs, fldA, fr, l4, l5, l6, l7, l8, l13, l14, le, ld, q1, q2, q3, q9, q4, q7, q8, hl, hc, he, hd]
  · have v1 : flM 5 1 = false := by decide
    have v2 : flM 5 2 = false := by decide
    have v3 : flM 5 3 = false := by decide
    have v9 : flM 5 9 = false := by decide
    have v4 : flM 5 4 = false := by decide
    have v7 : flM 5 7 = true := by decide
    have v8 : flM 5 8 = true := by decide
    rw [v1] at q1
    rw [v2] at q2
    rw [v3] at q3
    rw [v9] at q9
    rw [v4] at q4
    rw [v7] at q7
    rw [v8] at q8
    simp only [v1, v2, v3, v4, v7, v8, v9]
    clear hs hk v1 v2 v3 v4 v7 v8 v9
    by_cases hi : m.index = 0
    case neg =>
      simp [M.a25, sqd, sqh, E.eqs, fldA, fr, l4, l5, l6, l7, l8, l13, l14, le, ld, q1, q2, q3, q9, q4, q7, q8, hi]
    by_cases hl : m.lt = 0
    case neg =>
      simp [M.a25, sqd, sqh, E.eqs, fldA, fr, l4, l5, l6, l7, l8, l13, l14, le, ld, q1, q2, q3, q9, q4, q7, q8, hi, hl]
    by_cases hc : m.cm = 0
    case neg =>
      simp [M.a25, sqd, sqh, E.eqs, fldA, fr, l4, l5, l6, l7, l8, l13, l14, le, ld, q1, q2, q3, q9, q4, q7, q8, hi, hl, hc]
    by_cases he : ne = 0
    case neg =>
      have ge : (0 : Int) < ne := by omega
      simp [M.a25, sqd, sqh, E.eqs, fldA, fr, l4, l5, l6, l7, l8, l13, l14, le, ld, q1, q2, q3, q9, q4, q7, q8, hi, hl, hc, he, ge, Nat.pos_of_ne_zero he]
    cases rf
    case true => simp [M.a25, sqd, sqh, E.eqs, fldA, fr, l4, l5, l6, l7, l8, l13, l14, le, ld, q1, q2, q3, q9, q4, q7, q8, hi, hl, hc, he]
    simp [M.a25, sqd, sqh, E.eqs, fldA, fr, l4, l5, l6, l7, l8, l13, l14, le, ld, q1, q2, q3, q9, q4, q7, q8, hi, hl, hc, he]
  · have v1 : flM 6 1 = false := by decide
    have v2 : flM 6 2 = false := by decide
    have v3 : flM 6 3 = false := by decide
    have v9 : flM 6 9 = false := by decide
    have v4 : flM 6 4 = false := by decide
    have v7 : flM 6 7 = false := by decide
    have v8 : flM 6 8 = false := by decide
    rw [v1] at q1
    rw [v2] at q2
    rw [v3] at q3
    rw [v9] at q9
    rw [v4] at q4
    rw [v7] at q7
    rw [v8] at q8
    simp only [v1, v2, v3, v4, v7, v8, v9]
    clear hs hk v1 v2 v3 v4 v7 v8 v9
    by_cases hi : m.index = 0
    case neg =>
      simp [M.a25, sqd, sqh, E.eqs, fldA, fr, l4, l5, l6, l7, l8, l13, l14, le, ld, q1, q2, q3, q9, q4, q7, q8, hi]
    by_cases hl : m.lt = 0
    case neg =>
      simp [M.a25, sqd, sqh, E.eqs, fldA, fr, l4, l5, l6, l7, l8, l13, l14, le, ld, q1, q2, q3, q9, q4, q7, q8, hi, hl]
    by_cases hc : m.cm = 0
    case neg =>
      simp [M.a25, sqd, sqh, E.eqs, fldA, fr, l4, l5, l6, l7, l8, l13, l14, le, ld, q1, q2, q3, q9, q4, q7, q8, hi, hl, hc]
    by_cases he : ne = 0
    case neg =>
      have ge : (0 : Int) < ne := by omega
      simp [M.a25, sqd, sqh, E.eqs, fldA, fr, l4, l5, l6, l7, l8, l13, l14, le, ld, q1, q2, q3, q9, q4, q7, q8, hi, hl, hc, he, ge, Nat.pos_of_ne_zero he]
    cases rf
    case true => simp [M.a25, sqd, sqh, E.eqs, fldA, fr, l4, l5, l6, l7, l8, l13, l14, le, ld, q1, q2, q3, q9, q4, q7, q8, hi, hl, hc, he]
    cases la
    case true => simp [M.a25, sqd, sqh, E.eqs, fldA, fr, l4, l5, l6, l7, l8, l13, l14, le, ld, q1, q2, q3, q9, q4, q7, q8, hi, hl, hc, he]
    by_cases hd : nd = 0
    case neg =>
      have gd : (0 : Int) < nd := by omega
      simp [M.a25, sqd, sqh, E.eqs, fldA, fr, l4, l5, l6, l7, l8, l13, l14, le, ld, q1, q2, q3, q9, q4, q7, q8, hi, hl, hc, he, hd, gd, Nat.pos_of_ne_zero hd]
    simp [M.a25, sqd, sqh, E.eqs, fldA, fr, l4, l5, l6, l7, l8, l13, l14, le, ld, q1, q2, q3, q9, q4, q7, q8, hi, hl, hc, he, hd]
end
end Go.Proofs.Ytoghoddofokekaa
end

section
set_option linter.unusedVariables false
set_option linter.unusedSimpArgs false
set_option maxRecDepth 100000
namespace Go.Proofs.Ytoghoddofokekaa
open Go.Abs

section
variable {hb : Heap} {p : Nat} {m : Ms} {xe xd : SV}
def ask3 (m : Ms) : Bool := if flM m.k 5 then baseB m.bi m.bt m.bc else decide (m.bi = 0 ∧ m.bt = 0 ∧ m.bc = 0)
def ask4 (m : Ms) : Bool := offB m.off && (flM m.k 6 || decide (m.off = 0))

set_option maxHeartbeats 4000000 in
theorem ask3_run (hp : hb[p]? = some ⟨.var, m.cells xe xd⟩) : ∃ e', runE F O (sqh (sqd 4 M.a25.body)) [(1, [.sc (.ptr p 0 15)]), (3, [.sc (.str (ofM m.k))]), (124, [.sc (.bool false)])] hb = some (if ask3 m then (.normal, [(1, [.sc (.ptr p 0 15)]), (3, [.sc (.str (ofM m.k))]), (143, [.sc (.bool false)])], hb) else (.ret, e', hb)) ∧ e' = [(2, [.sc (.bool false)])] := by
  refine ⟨_, runM fun R RO RD RT E => ?_, rfl⟩
  have hlen : (m.cells xe xd).length = 15 := rfl
  have l9 : loadA hb true 3 [.sc (.ptr p 9 15)] = some ([.agg [.int .u64 m.bi, .int .u64 m.bt, .int .i64 m.bc]], hb) := by simp [loadA, hp, hlen]; rfl
  have fr : freshB hb p 15 = true := freshB_of hp rfl
  have hl : (ofM m.k).length < 1000 := by have := ofM_len m.k; omega
  have q5 := spec56 hb (w := m_base) hl
  rw [hasM_base] at q5
  have qb := spec57 hb m.bi m.bt m.bc
  unfold ask3
  generalize ofM m.k = o at *
  generalize baseB m.bi m.bt m.bc = bb at *
  cases hf : flM m.k 5
  · rw [hf] at q5
    by_cases h1 : m.bi = 0
    · by_cases h2 : m.bt = 0
      · by_cases h3 : m.bc = 0
        · simp [M.a25, sqd, sqh, E.eqs, fldA, fr, l9, q5, h1, h2, h3]
        · simp [M.a25, sqd, sqh, E.eqs, fldA, fr, l9, q5, h1, h2, h3]
      · simp [M.a25, sqd, sqh, E.eqs, fldA, fr, l9, q5, h1, h2]
    · simp [M.a25, sqd, sqh, E.eqs, fldA, fr, l9, q5, h1]
  · rw [hf] at q5
    cases bb
    · simp [M.a25, sqd, sqh, E.eqs, fldA, fr, l9, q5, qb]
    · simp [M.a25, sqd, sqh, E.eqs, fldA, fr, l9, q5, qb]

set_option maxHeartbeats 4000000 in
theorem ask4_run (hp : hb[p]? = some ⟨.var, m.cells xe xd⟩) : ∃ e', runE F O (sqh (sqd 5 M.a25.body)) [(1, [.sc (.ptr p 0 15)]), (3, [.sc (.str (ofM m.k))]), (143, [.sc (.bool false)])] hb = some (if ask4 m then (.normal, [(1, [.sc (.ptr p 0 15)]), (161, [.sc (.bool false)])], hb) else (.ret, e', hb)) ∧ e' = [(2, [.sc (.bool false)])] := by
  refine ⟨_, runM fun R RO RD RT E => ?_, rfl⟩
  have hlen : (m.cells xe xd).length = 15 := rfl
  have l12 : loadA hb false 1 [.sc (.ptr p 12 15)] = some ([.sc (.int .i64 m.off)], hb) := by simp [loadA, hp, hlen]; rfl
  have fr : freshB hb p 15 = true := freshB_of hp rfl
  have hl : (ofM m.k).length < 1000 := by have := ofM_len m.k; omega
  have q6 := spec56 hb (w := m_offset) hl
  rw [hasM_offset] at q6
  unfold ask4 offB
  generalize ofM m.k = o at *
  by_cases h1 : m.off < 0
  · have h1' : ¬ 0 ≤ m.off := by omega
    simp [M.a25, sqd, sqh, E.eqs, fldA, fr, l12, h1, h1']
  · have h1' : 0 ≤ m.off := by omega
    by_cases h2 : 32768 < m.off
    · have h2' : ¬ m.off ≤ 32768 := by omega
      simp [M.a25, sqd, sqh, E.eqs, fldA, fr, l12, h1, h1', h2, h2']
    · have h2' : m.off ≤ 32768 := by omega
      cases hf : flM m.k 6
      · rw [hf] at q6
        by_cases h3 : m.off = 0
        · simp [M.a25, sqd, sqh, E.eqs, fldA, fr, l12, h3, q6]
        · simp [M.a25, sqd, sqh, E.eqs, fldA, fr, l12, h1, h1', h2, h2', h3, q6]
      · rw [hf] at q6
        simp [M.a25, sqd, sqh, E.eqs, fldA, fr, l12, h1, h1', h2, h2', q6]
end
end Go.Proofs.Ytoghoddofokekaa
end

section
set_option linter.unusedVariables false
set_option linter.unusedSimpArgs false
set_option maxRecDepth 100000
namespace Go.Proofs.Ytoghoddofokekaa
open Go.Abs

theorem sel (f a z : Bool) (h : z = true → a = true) : (if f then a else z) = (a && (f || z)) := by
  cases f <;> cases a <;> cases z <;> simp_all
theorem sel1 (f z : Bool) : (if f then true else z) = (f || z) := by cases f <;> rfl

theorem rightM_same (m : Ms) : rightM m = (ask1 m && (ask2 m && (ask3 m && (ask4 m && (decide (m.D.length ≤ 256) && followB m.index m.term m.lt m.ents))))) := by
  unfold rightM headM ask1
  rw [ofM_mask]
  by_cases hm : maskM m.k = 0
  · simp [hm]
  · have h0 := flM0 hm
    have s1 := sel (flM m.k 1) (mostB m.index) (decide (m.index = 0)) (fun h => by simp at h; simp [mostB, h])
    have s2 := sel (flM m.k 2) (mostB m.lt) (decide (m.lt = 0)) (fun h => by simp at h; simp [mostB, h])
    have s3 := sel (flM m.k 3) (mostB m.cm) (decide (m.cm = 0)) (fun h => by simp at h; simp [mostB, h])
    have s6 := sel (flM m.k 6) (offB m.off) (decide (m.off = 0)) (fun h => by simp at h; simp [offB, h])
    have s8 := sel (flM m.k 8) (decide (m.D.length ≤ 256)) (decide (m.D.length = 0)) (fun h => by simp at h; simp [h])
    have s9 := sel (flM m.k 9) (followB m.index m.term m.lt m.ents) (decide (m.es.length = 0)) (fun h => by
      simp at h
      simp [followB, Ms.ents, h, followF])
    have s4 := sel1 (flM m.k 4) (!m.rf)
    have s7 := sel1 (flM m.k 7) (!m.la)
    simp only [fromOkM, fldOkM, h0, if_true, fitsM, bareM, s1, s2, s3, s4, s6, s7, s8, s9]
    unfold ask2 ask3 ask4
    simp only [hm, decide_false, Bool.not_false, ne_eq, not_false_eq_true, decide_true, Bool.true_and, decide_not]
    generalize (if flM m.k 5 = true then baseB m.bi m.bt m.bc else decide (m.bi = 0 ∧ m.bt = 0 ∧ m.bc = 0)) = b5
    simp only [Bool.and_true]
    ac_rfl

section
variable {h : Heap} {m : Ms} {xe xd : SV}
set_option maxHeartbeats 1000000 in
theorem spec25 (a : MsAt h m xe xd) : call 25 [[.agg (m.cells xe xd)]] h = some ([.sc (.bool (rightM m))], h) := by
  obtain ⟨hb, hhb⟩ : ∃ hb : Heap, hb = h ++ [⟨.var, m.cells xe xd⟩] := ⟨_, rfl⟩
  have mb : Mod (fun _ => False) h hb := by rw [hhb]; exact Mod.app _ _ _
  have bb : hb[h.length]? = some ⟨.var, m.cells xe xd⟩ := by rw [hhb]; simp
  have tr : ∀ b, trim h hb [.sc (.bool b)] = h := fun b => Mod.trim_pure mb b
  have ab := a.mod mb
  have qo := spec54 hb m.k
  have hlen : (m.cells xe xd).length = 15 := rfl
  have ht : (m.cells xe xd).take 15 = m.cells xe xd := rfl
  have l0 : loadA hb false 1 [.sc (.ptr h.length 0 15)] = some ([.sc (.int .i64 m.k)], hb) := by simp [loadA, bb, hlen]; rfl
  have l13 : loadA hb false 1 [.sc (.ptr h.length 13 15)] = some ([.sc xd], hb) := by simp [loadA, bb, hlen]; rfl
  have la : loadA hb true 15 [.sc (.ptr h.length 0 15)] = some ([.agg (m.cells xe xd)], hb) := by simp [loadA, bb, hlen, ht]
  have ld := lenA_row ab.dat
  have fr : freshB hb h.length 15 = true := freshB_of bb rfl
  have qe := spec58 (cs := m.cells xe xd) (term := m.term) (index := m.index) (lt := m.lt) rfl rfl (fun _ => rfl) (fun _ => rfl) (fun _ => rfl) (fun _ => rfl) ab.es ab.nes ab.ix
  obtain ⟨e1, r1, rfl⟩ := ask1_run bb
  obtain ⟨e3, r3, rfl⟩ := ask3_run bb
  obtain ⟨e4, r4, rfl⟩ := ask4_run bb
  rw [rightM_same]
  refine callX rfl (by rfl : F 25 = some M.a25) (fun R RO RD RT E => ?_)
  have top : ∀ r, R (sqd 2 M.a25.body) [(1, [.sc (.ptr h.length 0 15)]), (3, [.sc (.str (ofM m.k))])] hb = r → R M.a25.body (envFrom 0 [[.agg (m.cells xe xd)]]) h = r := fun r hr => by
    refine seqM E (e1 := [(1, [.sc (.ptr h.length 0 15)])]) (h1 := hb) ?_ (seqM E (e1 := [(1, [.sc (.ptr h.length 0 15)]), (3, [.sc (.str (ofM m.k))])]) (h1 := hb) ?_ hr)
    · generalize m.cells xe xd = cs at *
      simp [E.eqs, ← hhb, hlen]
    · simp [E.eqs, fldA, fr, l0, qo]
  have seqR : ∀ {a b : ACode} {e e' : Env} {h h' : Heap}, R a e h = some (.ret, e', h') → R (.seq a b) e h = some (.ret, e', h') := fun hp => by simp only [E.eqs, hp]
  have out : ∀ b : Bool, R (sqd 2 M.a25.body) [(1, [.sc (.ptr h.length 0 15)]), (3, [.sc (.str (ofM m.k))])] hb = some (.ret, [(2, [.sc (.bool b)])], hb) → finA h M.a25.res (R M.a25.body (envFrom 0 [[.agg (m.cells xe xd)]]) h) = some ([.sc (.bool b)], h) := fun b hb' => by
    rw [top _ hb']
    simp [M.a25, tr]
  refine out _ ?_
  cases q1 : ask1 m
  · rw [q1] at r1
    simp only [Bool.false_eq_true, if_false] at r1
    exact seqR (E.run r1)
  · rw [q1] at r1
    simp only [if_true] at r1
    have hk : maskM m.k ≠ 0 := fun h0 => by
      unfold ask1 at q1
      rw [ofM_mask] at q1
      simp [h0] at q1
    obtain ⟨e2, r2, rfl⟩ := ask2_run bb ab hk
    refine seqM E (E.run r1) ?_
    cases q2 : ask2 m
    · rw [q2] at r2
      simp only [Bool.false_eq_true, if_false] at r2
      exact seqR (E.run r2)
    · rw [q2] at r2
      simp only [if_true] at r2
      refine seqM E (E.run r2) ?_
      cases q3 : ask3 m
      · rw [q3] at r3
        simp only [Bool.false_eq_true, if_false] at r3
        exact seqR (E.run r3)
      · rw [q3] at r3
        simp only [if_true] at r3
        refine seqM E (E.run r3) ?_
        cases q4 : ask4 m
        · rw [q4] at r4
          simp only [Bool.false_eq_true, if_false] at r4
          exact seqR (E.run r4)
        · rw [q4] at r4
          simp only [if_true] at r4
          refine seqM E (E.run r4) ?_
          simp only [Bool.true_and]
          have qe : call 58 [[.agg (m.cells xe xd)]] hb = some ([.sc (.bool (followB m.index m.term m.lt m.ents))], hb) := qe
          generalize followB m.index m.term m.lt m.ents = fb at *
          generalize m.cells xe xd = cs at *
          by_cases hd : (m.D.length : Int) ≤ 256
          · have hd' : m.D.length ≤ 256 := by omega
            simp [E.eqs, fldA, fr, l13, ld, hd, hd', la, qe]
          · have hd' : ¬ m.D.length ≤ 256 := by omega
            simp [E.eqs, fldA, fr, l13, ld, hd, hd']
end
end Go.Proofs.Ytoghoddofokekaa
end

