/- Several chapters in one text. -/
import Derived.Test.YtoghoddofokekaaD2
import Derived.Test.YtoghoddofokekaaY1
section
set_option linter.unusedVariables false
set_option linter.unusedSimpArgs false
set_option maxRecDepth 100000
namespace Go.Proofs.Ytoghoddofokekaa
open Go.Abs

/-- a set of nodes that is not empty -/
def setB (c : Int) : Bool := (decide (0 < c) && decide (c ≤ 254)) && decide (c % 2 = 0)
/-- what a kind of entry has -/
def kindE (kind : Int) (n : Nat) (conf : Int) : Bool :=
  if kind = 0 then decide (n = 0) && decide (conf = 0) else if kind = 1 then (decide (1 ≤ n) && decide (n ≤ 128)) && decide (conf = 0) else if kind = 2 then decide (n = 0) && setB conf else false
def rightE (kind : Int) (term index n : Nat) (conf : Int) : Bool := (kindE kind n conf && numOk term) && numOk index
def eC (kind : Int) (term index : Nat) (x : SV) (conf : Int) : List SV := [.int .i64 kind, .int .u64 term, .int .u64 index, x, .int .i64 conf]

theorem and1 : ∀ n : Fin 255, bitop .and .i64 ((n.val : Nat) : Int) 1 = ((n.val % 2 : Nat) : Int) := by decide
theorem and1_of {c : Int} (h0 : 0 < c) (h1 : c ≤ 254) : bitop .and .i64 c 1 = c % 2 := by
  have := and1 ⟨c.toNat, by omega⟩
  simp only at this
  rw [show ((c.toNat : Nat) : Int) = c by omega] at this
  rw [this]
  omega

theorem spec92 (h : Heap) (c : Int) : call 92 [[.sc (.int .i64 c)]] h = some ([.sc (.bool (setB c))], h) := by
  refine callX rfl (by rfl : F 92 = some M.a92) (fun R RO RD RT E => ?_)
  unfold setB
  by_cases c0 : 0 < c
  · by_cases c1 : c ≤ 254
    · have e := and1_of c0 c1
      simp [M.a92, E.eqs, c0, c1, e]
    · simp [M.a92, E.eqs, c0, c1]
  · simp [M.a92, E.eqs, c0]

theorem spec93 (h : Heap) (n : Nat) : call 93 [[.sc (.int .u64 n)]] h = some ([.sc (.bool (numOk n))], h) := by
  refine callX rfl (by rfl : F 93 = some M.a93) (fun R RO RD RT E => ?_)
  unfold numOk
  have e1 : ((n : Int) ≤ 72057594037927935) ↔ n ≤ 72057594037927935 := by omega
  by_cases c1 : 1 ≤ n
  · have c1' : (1 : Int) ≤ n := by omega
    simp [M.a93, E.eqs, c1, c1', e1]
  · have c1' : ¬ (1 : Int) ≤ n := by omega
    simp [M.a93, E.eqs, c1, c1']

/-- the document's sets, the empty one among them -/
def setR0 (c : Int) : Bool := (decide (0 ≤ c) && decide (c ≤ 254)) && decide (c % 2 = 0)
theorem spec94 (h : Heap) (c : Int) : call 94 [[.sc (.int .i64 c)]] h = some ([.sc (.bool (setR0 c))], h) := by
  refine callX rfl (by rfl : F 94 = some M.a94) (fun R RO RD RT E => ?_)
  unfold setR0
  by_cases c0 : 0 ≤ c
  · by_cases c1 : c ≤ 254
    · have e : c.tmod 2 = c % 2 := Int.tmod_eq_emod_of_nonneg c0
      have w : IntKind.i64.wrap (c % 2) = c % 2 := wi64 (by omega) (by omega)
      simp [M.a94, E.eqs, c0, c1, e, w]
    · simp [M.a94, E.eqs, c0, c1]
  · simp [M.a94, E.eqs, c0]

theorem set_split (c : Int) : (setR0 c && decide (c ≠ 0)) = setB c := by
  unfold setR0 setB
  by_cases h0 : c = 0
  · simp [h0]
  · have : (0 ≤ c) ↔ 0 < c := by omega
    simp [h0, this]

section
variable {h : Heap} {x : SV} {T : List UInt8} {kind conf : Int} {term index : Nat}

set_option maxHeartbeats 1000000 in
theorem spec42 (hx : Row h x 1 T.length (Go.Abs.bytes T)) : call 42 [[.agg (eC kind term index x conf)]] h = some ([.sc (.bool (rightE kind term index T.length conf))], h) := by
  obtain ⟨hb, hhb⟩ : ∃ hb : Heap, hb = h ++ [⟨.var, [.int .i64 kind, .int .u64 term, .int .u64 index, x, .int .i64 conf]⟩] := ⟨_, rfl⟩
  have bb : hb[h.length]? = some ⟨.var, [.int .i64 kind, .int .u64 term, .int .u64 index, x, .int .i64 conf]⟩ := by rw [hhb]; simp
  have tr : ∀ b, trim h hb [.sc (.bool b)] = h := fun b => by rw [hhb]; exact trim_pure rfl
  have ln := lenA_row (hx.mod (by rw [hhb]; exact Mod.app (fun _ => False) _ _ : Mod (fun _ => False) h hb) fun _ _ h => h)
  have n1 := spec93 hb term
  have n2 := spec93 hb index
  have q := spec92 hb conf
  refine callX rfl (by rfl : F 42 = some M.a42) (fun R RO RD RT E => ?_)
  unfold rightE kindE eC
  generalize numOk term = t1 at *
  generalize numOk index = t2 at *
  generalize setB conf = t3 at *
  generalize T.length = n at *
  by_cases k0 : kind = 0
  · subst k0
    by_cases hn : n = 0
    · by_cases hc : conf = 0
      · subst hc
        cases t1 <;> simp [M.a42, E.eqs, ← hhb, bb, tr, fldA, freshB, loadA, ln, n1, n2, hn]
      · simp [M.a42, E.eqs, ← hhb, bb, tr, fldA, freshB, loadA, ln, n1, n2, hn, hc]
    · simp [M.a42, E.eqs, ← hhb, bb, tr, fldA, freshB, loadA, ln, n1, n2, hn]
  · by_cases k1 : kind = 1
    · subst k1
      by_cases hn : 1 ≤ n
      · have hn' : (1 : Int) ≤ n := by omega
        by_cases hm : n ≤ 128
        · have hm' : (n : Int) ≤ 128 := by omega
          by_cases hc : conf = 0
          · subst hc
            cases t1 <;> simp [M.a42, E.eqs, ← hhb, bb, tr, fldA, freshB, loadA, ln, n1, n2, hn, hn', hm, hm']
          · simp [M.a42, E.eqs, ← hhb, bb, tr, fldA, freshB, loadA, ln, n1, n2, hn, hn', hm, hm', hc]
        · have hm' : ¬ (n : Int) ≤ 128 := by omega
          simp [M.a42, E.eqs, ← hhb, bb, tr, fldA, freshB, loadA, ln, n1, n2, hn, hn', hm, hm']
      · have hn' : ¬ (1 : Int) ≤ n := by omega
        simp [M.a42, E.eqs, ← hhb, bb, tr, fldA, freshB, loadA, ln, n1, n2, hn, hn']
    · by_cases k2 : kind = 2
      · subst k2
        by_cases hn : n = 0
        · cases t3
          · simp [M.a42, E.eqs, ← hhb, bb, tr, fldA, freshB, loadA, ln, n1, n2, hn, q]
          · cases t1 <;> simp [M.a42, E.eqs, ← hhb, bb, tr, fldA, freshB, loadA, ln, n1, n2, hn, q]
        · simp [M.a42, E.eqs, ← hhb, bb, tr, fldA, freshB, loadA, ln, n1, n2, hn, q]
      · simp [M.a42, E.eqs, ← hhb, bb, tr, fldA, freshB, loadA, ln, n1, n2, k0, k1, k2]

set_option maxHeartbeats 1000000 in
theorem spec43 (hx : Row h x 1 T.length (Go.Abs.bytes T)) : call 43 [[.agg (eC kind term index x conf)]] h = some ([.sc (.bool (rightE kind term index T.length conf))], h) := by
  obtain ⟨hb, hhb⟩ : ∃ hb : Heap, hb = h ++ [⟨.var, [.int .i64 kind, .int .u64 term, .int .u64 index, x, .int .i64 conf]⟩] := ⟨_, rfl⟩
  have bb : hb[h.length]? = some ⟨.var, [.int .i64 kind, .int .u64 term, .int .u64 index, x, .int .i64 conf]⟩ := by rw [hhb]; simp
  have tr : ∀ b, trim h hb [.sc (.bool b)] = h := fun b => by rw [hhb]; exact trim_pure rfl
  have ln := lenA_row (hx.mod (by rw [hhb]; exact Mod.app (fun _ => False) _ _ : Mod (fun _ => False) h hb) fun _ _ h => h)
  have n1 := spec55 hb true term
  have n2 := spec55 hb true index
  have q := spec94 hb conf
  have sp := set_split conf
  refine callX rfl (by rfl : F 43 = some M.a43) (fun R RO RD RT E => ?_)
  unfold rightE kindE eC
  rw [← sp]
  simp only [numR, if_true] at n1 n2
  generalize numOk term = t1 at *
  generalize numOk index = t2 at *
  generalize setR0 conf = t3 at *
  generalize T.length = n at *
  cases t1
  · simp [M.a43, E.eqs, ← hhb, bb, tr, fldA, freshB, loadA, n1, n2]
  · cases t2
    · simp [M.a43, E.eqs, ← hhb, bb, tr, fldA, freshB, loadA, n1, n2]
    · by_cases k0 : kind = 0
      · subst k0
        by_cases hn : n = 0
        · simp [M.a43, E.eqs, ← hhb, bb, tr, fldA, freshB, loadA, ln, n1, n2, hn]
        · simp [M.a43, E.eqs, ← hhb, bb, tr, fldA, freshB, loadA, ln, n1, n2, hn]
      · by_cases k1 : kind = 1
        · subst k1
          by_cases hn : 1 ≤ n
          · have hn' : (1 : Int) ≤ n := by omega
            by_cases hm : n ≤ 128
            · have hm' : (n : Int) ≤ 128 := by omega
              simp [M.a43, E.eqs, ← hhb, bb, tr, fldA, freshB, loadA, ln, n1, n2, hn, hn', hm, hm']
            · have hm' : ¬ (n : Int) ≤ 128 := by omega
              simp [M.a43, E.eqs, ← hhb, bb, tr, fldA, freshB, loadA, ln, n1, n2, hn, hn', hm, hm']
          · have hn' : ¬ (1 : Int) ≤ n := by omega
            simp [M.a43, E.eqs, ← hhb, bb, tr, fldA, freshB, loadA, ln, n1, n2, hn, hn']
        · by_cases k2 : kind = 2
          · subst k2
            by_cases hn : n = 0
            · cases t3 <;> simp [M.a43, E.eqs, ← hhb, bb, tr, fldA, freshB, loadA, ln, n1, n2, hn, q]
            · simp [M.a43, E.eqs, ← hhb, bb, tr, fldA, freshB, loadA, ln, n1, n2, hn, q]
          · simp [M.a43, E.eqs, ← hhb, bb, tr, fldA, freshB, loadA, ln, n1, n2, k0, k1, k2]
end
end Go.Proofs.Ytoghoddofokekaa
end

section
set_option linter.unusedVariables false
set_option linter.unusedSimpArgs false
set_option maxRecDepth 100000
namespace Go.Proofs.Ytoghoddofokekaa
open Go.Abs

def entB (kind : Int) (term index : Nat) (T : List UInt8) (conf : Int) : List UInt8 :=
  UInt8.ofNat (kind % 256).toNat :: (numB term ++ (numB index ++ (if kind = 1 then numB T.length ++ T else if kind = 2 then [UInt8.ofNat (conf % 256).toNat] else [])))
def entL (kind : Int) (term index : Nat) (T : List UInt8) (conf : Int) : List UInt8 := if rightE kind term index T.length conf then entB kind term index T conf else []
def entE (kind : Int) (term index : Nat) (T : List UInt8) (conf : Int) : Int := if rightE kind term index T.length conf then 0 else 1

theorem right_kind {kind : Int} {term index n : Nat} {conf : Int} (h : rightE kind term index n conf = true) : (kind = 0 ∨ kind = 1 ∨ kind = 2) ∧ n ≤ 128 := by
  unfold rightE kindE at h
  simp only [Bool.and_eq_true] at h
  obtain ⟨⟨h, _⟩, _⟩ := h
  split at h
  · simp at h; omega
  · split at h
    · simp at h; omega
    · split at h
      · simp at h; omega
      · simp at h

section
variable {h : Heap} {x : SV} {T : List UInt8} {kind conf : Int} {term index : Nat}

theorem spec40 (hx : Row h x 1 T.length (Go.Abs.bytes T)) (ht : term < 18446744073709551616) (hi : index < 18446744073709551616) :
    ∃ h' y, call 40 [[.agg (eC kind term index x conf)]] h = some ([.sc y, .sc (.int .i64 (entE kind term index T conf))], h') ∧ Fresh h h' y (entL kind term index T conf) := by
  obtain ⟨hb, hhb⟩ : ∃ hb : Heap, hb = h ++ [⟨.var, eC kind term index x conf⟩] := ⟨_, rfl⟩
  have bb : hb[h.length]? = some ⟨.var, eC kind term index x conf⟩ := by rw [hhb]; simp
  have mb : Mod (fun _ => False) h hb := by rw [hhb]; exact Mod.app _ _ _
  have hxb := hx.mod mb fun _ _ h => h
  have qr := spec42 (kind := kind) (conf := conf) (term := term) (index := index) hxb
  unfold entE entL
  cases hc : rightE kind term index T.length conf
  · rw [hc] at qr
    have tr : trim h hb [.sc .nils, .sc (.int .i64 1)] = h := by rw [hhb]; exact trim_pure rfl
    refine ⟨_, .nils, callX (hh := h) rfl (by rfl : F 40 = some M.a40) (fun R RO RD RT E => ?_), Fresh.nils (Mod.refl _ _)⟩
    unfold eC at *
    simp [M.a40, E.eqs, ← hhb, bb, fldA, freshB, loadA, qr, tr]
  · rw [hc] at qr
    obtain ⟨hk, hT⟩ := right_kind hc
    have s0 := spec60 hb
    have l0 := li_new hb
    obtain ⟨b, hbd⟩ : ∃ b, b = UInt8.ofNat (kind % 256).toNat := ⟨_, rfl⟩
    have hw := byte_of kind
    rw [← hbd] at hw
    obtain ⟨b2, hbd2⟩ : ∃ b2, b2 = UInt8.ofNat (conf % 256).toNat := ⟨_, rfl⟩
    have hw2 := byte_of conf
    rw [← hbd2] at hw2
    have nt := numB_le ht
    have ni := numB_le hi
    obtain ⟨g1, e1, st1⟩ := spec61 b l0.wr (by simp)
    have l1 := l0.step st1
    obtain ⟨g2, e2, st2⟩ := spec70 ht l1.wr (by simp)
    have l2 := l1.step st2
    obtain ⟨g3, e3, st3⟩ := spec70 hi l2.wr (by simp; omega)
    have l3 := l2.step st3
    have x0 : (hb ++ [⟨.var, [.nils]⟩])[h.length]? = some ⟨.var, eC kind term index x conf⟩ := l0.mod.get bb fun h => h
    have x1 := l1.mod.get bb fun h => h
    have x2 := l2.mod.get bb fun h => h
    have x3 := l3.mod.get bb fun h => h
    rcases hk with rfl | rfl | rfl
    · obtain ⟨g5, y, e5, f5⟩ := spec64 l3.wr (by simp; omega)
      have fr : Fresh h g5 y (entB 0 term index T conf) := by
        have := f5.after (mb.trans l3.mod fun _ _ h => h)
        unfold entB
        rw [← hbd]
        simpa using this
      refine ⟨_, y, callX (hh := trim h g5 [.sc y, .sc (.int .i64 0)]) rfl (by rfl : F 40 = some M.a40) (fun R RO RD RT E => ?_), fr.trim2 _⟩
      clear fr f5 l0 l1 l2 l3 st1 st2 st3
      unfold eC at *
      simp [M.a40, E.eqs, ← hhb, bb, fldA, freshB, loadA, qr, s0, x0, hw, e1, x1, e2, x2, e3, x3, e5]
    · obtain ⟨g4, e4, st4⟩ := spec91 l3.wr (by simp; omega) (hxb.mod l3.mod fun _ _ h => h) (by omega) (fun j hj hs => by have := l3.new j hs; have := hxb.lt j hj; omega)
      have l4 := l3.step st4
      have nT := numB_le (n := T.length) (by omega)
      obtain ⟨g5, y, e5, f5⟩ := spec64 l4.wr (by simp; omega)
      have fr : Fresh h g5 y (entB 1 term index T conf) := by
        have := f5.after (mb.trans l4.mod fun _ _ h => h)
        unfold entB
        rw [← hbd]
        simpa using this
      refine ⟨_, y, callX (hh := trim h g5 [.sc y, .sc (.int .i64 0)]) rfl (by rfl : F 40 = some M.a40) (fun R RO RD RT E => ?_), fr.trim2 _⟩
      clear fr f5 l0 l1 l2 l3 l4 st1 st2 st3 st4
      unfold eC at *
      simp [M.a40, E.eqs, ← hhb, bb, fldA, freshB, loadA, qr, s0, x0, hw, e1, x1, e2, x2, e3, x3, e4, e5]
    · obtain ⟨g4, e4, st4⟩ := spec61 b2 l3.wr (by simp; omega)
      have l4 := l3.step st4
      obtain ⟨g5, y, e5, f5⟩ := spec64 l4.wr (by simp; omega)
      have fr : Fresh h g5 y (entB 2 term index T conf) := by
        have := f5.after (mb.trans l4.mod fun _ _ h => h)
        unfold entB
        rw [← hbd, ← hbd2]
        simpa using this
      refine ⟨_, y, callX (hh := trim h g5 [.sc y, .sc (.int .i64 0)]) rfl (by rfl : F 40 = some M.a40) (fun R RO RD RT E => ?_), fr.trim2 _⟩
      clear fr f5 l0 l1 l2 l3 l4 st1 st2 st3 st4
      unfold eC at *
      simp [M.a40, E.eqs, ← hhb, bb, fldA, freshB, loadA, qr, s0, x0, hw, hw2, e1, x1, e2, x2, e3, x3, e4, e5]
end
end Go.Proofs.Ytoghoddofokekaa
end

section
set_option linter.unusedVariables false
set_option linter.unusedSimpArgs false
set_option maxRecDepth 100000
namespace Go.Proofs.Ytoghoddofokekaa
open Go.Abs

section
variable {h : Heap} {x : SV} {T : List UInt8} {kind conf : Int} {term index : Nat}

set_option maxHeartbeats 2000000 in
theorem spec41 (hx : Row h x 1 T.length (Go.Abs.bytes T)) (ht : term < 18446744073709551616) (hi : index < 18446744073709551616) :
    ∃ h' y, call 41 [[.agg (eC kind term index x conf)]] h = some ([.sc y, .sc (.int .i64 (entE kind term index T conf))], h') ∧ Fresh h h' y (entL kind term index T conf) := by
  obtain ⟨hb, hhb⟩ : ∃ hb : Heap, hb = h ++ [⟨.var, eC kind term index x conf⟩] := ⟨_, rfl⟩
  have bb : hb[h.length]? = some ⟨.var, eC kind term index x conf⟩ := by rw [hhb]; simp
  have mb : Mod (fun _ => False) h hb := by rw [hhb]; exact Mod.app _ _ _
  have hxb := hx.mod mb fun _ _ h => h
  have qr := spec43 (kind := kind) (conf := conf) (term := term) (index := index) hxb
  unfold entE entL
  cases hc : rightE kind term index T.length conf
  · rw [hc] at qr
    have tr : trim h hb [.sc .nils, .sc (.int .i64 1)] = h := by rw [hhb]; exact trim_pure rfl
    refine ⟨_, .nils, callX (hh := h) rfl (by rfl : F 41 = some M.a41) (fun R RO RD RT E => ?_), Fresh.nils (Mod.refl _ _)⟩
    unfold eC at *
    simp [M.a41, E.eqs, ← hhb, bb, fldA, freshB, loadA, qr, tr]
  · rw [hc] at qr
    obtain ⟨hk, hT⟩ := right_kind hc
    obtain ⟨b, hbd⟩ : ∃ b, b = UInt8.ofNat (kind % 256).toNat := ⟨_, rfl⟩
    have hw := byte_of kind
    rw [← hbd] at hw
    obtain ⟨b2, hbd2⟩ : ∃ b2, b2 = UInt8.ofNat (conf % 256).toNat := ⟨_, rfl⟩
    have hw2 := byte_of conf
    rw [← hbd2] at hw2
    have nt := numB_le ht
    have ni := numB_le hi
    obtain ⟨g1, y1, e1, f1⟩ := spec65 hb ht
    obtain ⟨a1, f2⟩ := imm_app f1.row (numB_ne _) (by simp [lim]; omega) b
    have ff : Fresh hb _ _ (b :: numB term) := f2.after f1.mod
    have x1 := f1.mod.get bb fun h => h
    have x2 := ff.mod.get bb fun h => h
    generalize g1 ++ [⟨.row 5 1, Go.Abs.bytes (b :: numB term)⟩] = g2 at *
    generalize SV.sl g1.length 0 (b :: numB term).length (b :: numB term).length = y2 at *
    obtain ⟨g3, y3, e3, f3⟩ := spec65 g2 hi
    obtain ⟨a2, so⟩ := own_app (ff.own.mod f3.mod fun _ _ h => h) (srcOf_row f3.row) (by simp [lim]; omega)
    generalize appV g3 y2 1 (numB index).length = y4 at *
    generalize appH g3 y2 5 1 (numB index).length (Go.Abs.bytes (numB index)) = g4 at *
    have x3 := f3.mod.get x2 fun h => h
    have q1 : Fresh hb g3 y2 (b :: numB term) := ⟨ff.own.mod f3.mod fun _ _ h => h, ff.mod.trans f3.mod fun _ _ h => h, ff.new⟩
    have q2 := q1.app so
    have x4 := q2.mod.get bb fun h => h
    rcases hk with rfl | rfl | rfl
    · have fr : Fresh h g4 y4 (entB 0 term index T conf) := by
        have := q2.after mb
        unfold entB
        rw [← hbd]
        simpa using this
      refine ⟨_, y4, callX (hh := trim h g4 [.sc y4, .sc (.int .i64 0)]) rfl (by rfl : F 41 = some M.a41) (fun R RO RD RT E => ?_), fr.trim2 _⟩
      clear fr q1 q2 so f1 f2 f3 ff
      unfold eC at *
      simp [M.a41, E.eqs, ← hhb, bb, fldA, freshB, loadA, qr, hw, e1, a1, x1, x2, x3, x4, e3, a2]
    · obtain ⟨g5, y5, e5, f5⟩ := spec67 (hxb.mod q2.mod fun _ _ h => h) (by omega)
      have nT := numB_le (n := T.length) (by omega)
      obtain ⟨a3, so3⟩ := own_app (q2.own.mod f5.mod fun _ _ h => h) (srcOf_row f5.row) (by simp [lim]; omega)
      have q3 : Fresh hb g5 y4 (b :: numB term ++ numB index) := ⟨q2.own.mod f5.mod fun _ _ h => h, q2.mod.trans f5.mod fun _ _ h => h, q2.new⟩
      have q4 := q3.app so3
      generalize appV g5 y4 1 (numB T.length ++ T).length = y6 at *
      generalize appH g5 y4 5 1 (numB T.length ++ T).length (Go.Abs.bytes (numB T.length ++ T)) = g6 at *
      have fr : Fresh h g6 y6 (entB 1 term index T conf) := by
        have := q4.after mb
        unfold entB
        rw [← hbd]
        simpa using this
      refine ⟨_, y6, callX (hh := trim h g6 [.sc y6, .sc (.int .i64 0)]) rfl (by rfl : F 41 = some M.a41) (fun R RO RD RT E => ?_), fr.trim2 _⟩
      clear fr q1 q2 q3 q4 so so3 f1 f2 f3 ff f5
      unfold eC at *
      simp [M.a41, E.eqs, ← hhb, bb, fldA, freshB, loadA, qr, hw, e1, a1, x1, x2, x3, x4, e3, a2, e5, a3]
    · obtain ⟨a3, so3⟩ := own_app1 q2.own b2 (by simp [lim]; omega)
      have q4 := q2.app so3
      generalize appV g4 y4 1 1 = y6 at *
      generalize appH g4 y4 5 1 1 [.int .u8 b2.toNat] = g6 at *
      have fr : Fresh h g6 y6 (entB 2 term index T conf) := by
        have := q4.after mb
        unfold entB
        rw [← hbd, ← hbd2]
        simpa using this
      refine ⟨_, y6, callX (hh := trim h g6 [.sc y6, .sc (.int .i64 0)]) rfl (by rfl : F 41 = some M.a41) (fun R RO RD RT E => ?_), fr.trim2 _⟩
      clear fr q1 q2 q4 so so3 f1 f2 f3 ff
      unfold eC at *
      simp [M.a41, E.eqs, ← hhb, bb, fldA, freshB, loadA, qr, hw, hw2, e1, a1, x1, x2, x3, x4, e3, a2, a3]
end
end Go.Proofs.Ytoghoddofokekaa
end

section
set_option linter.unusedVariables false
set_option linter.unusedSimpArgs false
set_option maxRecDepth 100000
namespace Go.Proofs.Ytoghoddofokekaa
open Go.Abs

/-- a reader, and other cells beside it -/
structure RB (h : Heap) (i : Nat) (x : SV) (l : List UInt8) (p : Nat) (cs : List SV) (a bad : Nat) : Prop where
  rd : Rd h i x l a bad
  at_ : h[p]? = some ⟨.var, cs⟩
  ne : p ≠ i
  off : ¬ blk x p
theorem RB.put {h h' : Heap} {i p : Nat} {x : SV} {l : List UInt8} {cs : List SV} {a0 bad0 a bad : Nat} (r : RB h i x l p cs a0 bad0) (s : RdS h i x l h' a bad) (c : List SV) : RB (h'.set p ⟨.var, c⟩) i x l p c a bad ∧ Mod (fun j => j = i ∨ j = p) h (h'.set p ⟨.var, c⟩) := by
  have hp : h'[p]? = some ⟨.var, cs⟩ := s.mod.get r.at_ r.ne
  have m : Mod (fun j => j = p) h' (h'.set p ⟨.var, c⟩) := Mod.set _ _ rfl
  refine ⟨⟨s.rd.beside m (fun e => r.ne e.symm) fun j hj e => r.off (e ▸ hj), get_set_same hp, r.ne, r.off⟩, ?_⟩
  exact (s.mod.mono fun j _ e => .inl e).trans (m.mono fun j _ e => .inr e) fun _ _ h => h
theorem RB.cell {h h' : Heap} {i p : Nat} {x : SV} {l : List UInt8} {cs : List SV} {a0 bad0 a bad : Nat} (r : RB h i x l p cs a0 bad0) (s : RdS h i x l h' a bad) : h'[p]? = some ⟨.var, cs⟩ := s.mod.get r.at_ r.ne
theorem rByte_go {h : Heap} {i : Nat} {x : SV} {l : List UInt8} {a bad : Nat} (r : Rd h i x l a bad) (most : Nat) : RdS h i x l (setR h i x (rByte l a bad most).2.1 (rByte l a bad most).2.2) (rByte l a bad most).2.1 (rByte l a bad most).2.2 := by
  obtain ⟨h1, h2, _⟩ := rByte_lt l a bad most
  exact r.go (h1 r.le) (h2 r.small)
theorem rNum_go {h : Heap} {i : Nat} {x : SV} {l : List UInt8} {a bad : Nat} (r : Rd h i x l a bad) (most : Nat) : RdS h i x l (setR h i x (rNum l a bad most).2.1 (rNum l a bad most).2.2) (rNum l a bad most).2.1 (rNum l a bad most).2.2 := by
  obtain ⟨_, h3, h4, _⟩ := rNum_lt l a bad most
  exact r.go (h3 r.le) (h4 r.small)

/-- what follows an entry's numbers -/
def entTail (l : List UInt8) (kind a bad : Nat) : List UInt8 × Nat × Nat × Nat :=
  if kind = 1 then ((rText l a bad 128).1, 0, (rText l a bad 128).2.1, (rText l a bad 128).2.2)
  else if kind = 2 then ([], (rByte l a bad 254).1, (rByte l a bad 254).2.1, (rByte l a bad 254).2.2) else ([], 0, a, bad)

structure En where
  kind : Int
  term : Nat
  index : Nat
  T : List UInt8
  conf : Int
def En.zero : En := ⟨0, 0, 0, [], 0⟩
def En.c (e : En) (x : SV) : List SV := eC e.kind e.term e.index x e.conf
def En.right (e : En) : Bool := rightE e.kind e.term e.index e.T.length e.conf

/-- an entry that is read, and what is wrong -/
def rEnt (l : List UInt8) : En × Nat :=
  if 160 < l.length then (En.zero, 12) else
  let r1 := rByte l 0 0 2
  let r2 := rNum l r1.2.1 r1.2.2 72057594037927935
  let r3 := rNum l r2.2.1 r2.2.2 72057594037927935
  let t := entTail l r1.1 r3.2.1 r3.2.2
  let c : En := ⟨r1.1, r2.1, r3.1, t.1, t.2.1⟩
  let e := rEnd l t.2.2.1 t.2.2.2
  let e' := if e = 0 ∧ c.right = false then 11 else e
  if e' = 0 then (c, 0) else (En.zero, e')

theorem Fresh.trimE {h h' : Heap} {y : SV} {l : List UInt8} (a : Fresh h h' y l) (k t i c e : SV) : Fresh h (Go.Abs.trim h h' [.agg [k, t, i, y, c], .sc e]) y l := by
  refine ⟨?_, trim_mod' a.mod, a.new⟩
  unfold Go.Abs.trim
  split
  · rename_i hc
    simp only [Bool.and_eq_true] at hc
    rcases a.own with h1 | ⟨b, rfl, _⟩
    · exact .inl h1
    · simp [pureT, pureV, pureS] at hc
  · exact a.own

theorem sw_p {h : Heap} {i p : Nat} {x : SV} {l : List UInt8} {a bad kind term index : Nat} {v2 : TV} (r : RB h i x l p (eC kind term index .nils 0) a bad) :
    ∃ h' z, runE F O (sqh (sqd 7 M.a45.body)) [(2, v2), (4, [.sc (.ptr i 0 3)]), (5, [.sc (.ptr p 0 5)])] h = some (.normal, [(2, v2), (4, [.sc (.ptr i 0 3)]), (5, [.sc (.ptr p 0 5)])], h') ∧ RB h' i x l p (eC kind term index z (entTail l kind a bad).2.1) (entTail l kind a bad).2.2.1 (entTail l kind a bad).2.2.2 ∧ Mod (fun j => j = i ∨ j = p) h h' ∧
      Own h' z 5 1 (entTail l kind a bad).1.length (Go.Abs.bytes (entTail l kind a bad).1) ∧ ∀ j, blk z j → h.length ≤ j := by
  have k0 := r.at_
  unfold eC at k0
  have hp := lt_of_get k0
  unfold entTail
  by_cases k1 : kind = 1
  · rw [if_pos k1]
    subst k1
    obtain ⟨g, z, q, t⟩ := spec95 r.rd (most := 128) (by omega) (by omega)
    have s : RdS h i x l g _ _ := ⟨t.rd, t.mod⟩
    obtain ⟨r1, m1⟩ := r.put s (eC (1 : Nat) term index z 0)
    have kc := r.cell s
    refine ⟨_, z, runM fun R RO RD RT E => ?_, r1, m1, t.own.mod (Mod.set _ _ rfl : Mod (fun j => j = p) g _) fun j hj e => by have := t.new j hj; omega, t.new⟩
    unfold eC at *
    simp [M.a45, sqd, sqh, E.eqs, k0, q, fldA, freshB, loadA, storeA, kc]
  · rw [if_neg k1]
    by_cases k2 : kind = 2
    · rw [if_pos k2]
      subst k2
      have q := spec74 r.rd (most := 254) (by omega)
      have s := rByte_go r.rd 254
      have hb := (rByte_lt l a bad 254).2.2
      generalize rByte l a bad 254 = D at *
      obtain ⟨n, a', bad'⟩ := D
      simp only at q s hb ⊢
      have z1 : ((254 : Nat) : Int) = 254 := rfl
      rw [z1] at q
      have w1 := wi64n hb
      obtain ⟨r1, m1⟩ := r.put s (eC (2 : Nat) term index .nils n)
      have kc := r.cell s
      generalize setR h i x a' bad' = g at *
      refine ⟨_, .nils, runM fun R RO RD RT E => ?_, r1, m1, own_nils _, fun j hj => hj.elim⟩
      unfold eC at *
      simp [M.a45, sqd, sqh, E.eqs, k0, q, w1, fldA, freshB, loadA, storeA, kc]
    · rw [if_neg k2]
      have k1' : ¬ (kind : Int) = 1 := by omega
      have k2' : ¬ (kind : Int) = 2 := by omega
      refine ⟨h, .nils, runM fun R RO RD RT E => ?_, r, Mod.refl _ _, own_nils _, fun j hj => hj.elim⟩
      simp [M.a45, sqd, sqh, E.eqs, k0, k1, k1', k2, k2', fldA, freshB, loadA]

theorem sw_r {h : Heap} {i p : Nat} {x : SV} {l : List UInt8} {a bad kind term index : Nat} {v2 : TV} (r : RB h i x l p (eC kind term index .nils 0) a bad) :
    ∃ h' z, runE F O (sqh (sqd 6 M.a46.body)) [(2, v2), (4, [.sc (.ptr i 0 3)]), (5, [.sc (.ptr p 0 5)])] h = some (.normal, [(2, v2), (4, [.sc (.ptr i 0 3)]), (5, [.sc (.ptr p 0 5)])], h') ∧ RB h' i x l p (eC kind term index z (entTail l kind a bad).2.1) (entTail l kind a bad).2.2.1 (entTail l kind a bad).2.2.2 ∧ Mod (fun j => j = i ∨ j = p) h h' ∧
      Own h' z 5 1 (entTail l kind a bad).1.length (Go.Abs.bytes (entTail l kind a bad).1) ∧ ∀ j, blk z j → h.length ≤ j := by
  have k0 := r.at_
  unfold eC at k0
  have hp := lt_of_get k0
  unfold entTail
  by_cases k1 : kind = 1
  · rw [if_pos k1]
    subst k1
    obtain ⟨g, z, q, t⟩ := spec96 r.rd (most := 128) (by omega) (by omega)
    have s : RdS h i x l g _ _ := ⟨t.rd, t.mod⟩
    obtain ⟨r1, m1⟩ := r.put s (eC (1 : Nat) term index z 0)
    have kc := r.cell s
    refine ⟨_, z, runM fun R RO RD RT E => ?_, r1, m1, t.own.mod (Mod.set _ _ rfl : Mod (fun j => j = p) g _) fun j hj e => by have := t.new j hj; omega, t.new⟩
    unfold eC at *
    simp [M.a46, sqd, sqh, E.eqs, k0, q, fldA, freshB, loadA, storeA, kc]
  · rw [if_neg k1]
    by_cases k2 : kind = 2
    · rw [if_pos k2]
      subst k2
      have q := spec78 r.rd (most := 254) (by omega)
      have s := rByte_go r.rd 254
      have hb := (rByte_lt l a bad 254).2.2
      generalize rByte l a bad 254 = D at *
      obtain ⟨n, a', bad'⟩ := D
      simp only at q s hb ⊢
      have z1 : ((254 : Nat) : Int) = 254 := rfl
      rw [z1] at q
      have w1 := wi64n hb
      obtain ⟨r1, m1⟩ := r.put s (eC (2 : Nat) term index .nils n)
      have kc := r.cell s
      generalize setR h i x a' bad' = g at *
      refine ⟨_, .nils, runM fun R RO RD RT E => ?_, r1, m1, own_nils _, fun j hj => hj.elim⟩
      unfold eC at *
      simp [M.a46, sqd, sqh, E.eqs, k0, q, w1, fldA, freshB, loadA, storeA, kc]
    · rw [if_neg k2]
      have k1' : ¬ (kind : Int) = 1 := by omega
      have k2' : ¬ (kind : Int) = 2 := by omega
      refine ⟨h, .nils, runM fun R RO RD RT E => ?_, r, Mod.refl _ _, own_nils _, fun j hj => hj.elim⟩
      simp [M.a46, sqd, sqh, E.eqs, k0, k1, k1', k2, k2', fldA, freshB, loadA]

set_option maxHeartbeats 2000000 in
theorem spec45 {h : Heap} {y : SV} {l : List UInt8} (hy : Row h y 1 l.length (Go.Abs.bytes l)) (hl : l.length ≤ 140737488353280) : ∃ h' z, call 45 [[.sc y]] h = some ([.agg ((rEnt l).1.c z), .sc (.int .i64 (rEnt l).2)], h') ∧ Fresh h h' z (rEnt l).1.T := by
  obtain ⟨H0, hH0⟩ : ∃ H0 : Heap, H0 = h ++ [⟨.var, [.int .i64 0, .int .u64 0, .int .u64 0, .nils, .int .i64 0]⟩] := ⟨_, rfl⟩
  have mH0 : Mod (fun _ => False) h H0 := by rw [hH0]; exact Mod.app _ _ _
  have bH0 : H0[h.length]? = some ⟨.var, [.int .i64 0, .int .u64 0, .int .u64 0, .nils, .int .i64 0]⟩ := by rw [hH0]; simp
  have lH0 : H0.length = h.length + 1 := by rw [hH0]; simp
  have hy0 := hy.mod mH0 fun _ _ h => h
  have e1 := lenA_row hy0
  unfold rEnt
  by_cases hbig : 160 < l.length
  · rw [if_pos hbig]
    have c1 : (160 : Int) < l.length := by omega
    have kk : ∀ B : Blk, (H0.set h.length B)[h.length]? = some B := fun B => get_set_same bH0
    have mm : Mod (fun _ => False) h (H0.set h.length ⟨.var, [.int .i64 0, .int .u64 0, .int .u64 0, .nils, .int .i64 0]⟩) := mH0.trans (Mod.set _ _ rfl : Mod (fun j => j = h.length) H0 (H0.set h.length ⟨.var, [.int .i64 0, .int .u64 0, .int .u64 0, .nils, .int .i64 0]⟩)) fun j hj e => by omega
    refine ⟨_, .nils, callX (hh := trim h (H0.set h.length ⟨.var, [.int .i64 0, .int .u64 0, .int .u64 0, .nils, .int .i64 0]⟩) [.agg [.int .i64 0, .int .u64 0, .int .u64 0, .nils, .int .i64 0], .sc (.int .i64 12)]) rfl (by rfl : F 45 = some M.a45) (fun R RO RD RT E => ?_), (Fresh.nils mm).trimE _ _ _ _ _⟩
    simp [M.a45, E.eqs, ← hH0, e1, c1, bH0, kk, freshB, loadA, storeA, En.c, En.zero, eC]
  · rw [if_neg hbig]
    have c1 : ¬ (160 : Int) < l.length := by omega
    obtain ⟨n0, r0⟩ := spec73 hy0 hl
    have m0 : Mod (fun _ => False) H0 (H0 ++ [⟨.row 5 1, Go.Abs.bytes l⟩, ⟨.var, [.sl H0.length 0 l.length l.length, .int .i64 0, .int .i64 0]⟩]) := Mod.app _ _ _
    have lx : ∀ j, blk (SV.sl H0.length 0 l.length l.length) j → j < H0.length + 1 := fun j hj => by
      have : j = H0.length := by simpa [blk, eq_comm] using hj
      omega
    generalize (H0 ++ [⟨.row 5 1, Go.Abs.bytes l⟩, ⟨.var, [.sl H0.length 0 l.length l.length, .int .i64 0, .int .i64 0]⟩] : Heap) = h0 at *
    generalize SV.sl H0.length 0 l.length l.length = x at *
    obtain ⟨i, hi⟩ : ∃ i, i = H0.length + 1 := ⟨_, rfl⟩
    rw [← hi] at n0 r0
    have hlt := r0.lt
    obtain ⟨hp, hhp⟩ : ∃ hp : Heap, hp = h0 ++ [⟨.var, [.int .i64 0, .int .u64 0, .int .u64 0, .nils, .int .i64 0]⟩] := ⟨_, rfl⟩
    have mp : Mod (fun _ => False) h0 hp := by rw [hhp]; exact Mod.app _ _ _
    have rp : RB hp i x l h0.length [.int .i64 0, .int .u64 0, .int .u64 0, .nils, .int .i64 0] 0 0 := ⟨by rw [hhp]; exact r0.app _, by rw [hhp]; simp, by omega, fun hb => by have := lx _ hb; omega⟩
    have q1 := spec74 rp.rd (most := 2) (by omega)
    have s1 := rByte_go rp.rd 2
    have hb1 := (rByte_lt l 0 0 2).2.2
    generalize rByte l 0 0 2 = D1 at *
    obtain ⟨n1, a1, b1⟩ := D1
    simp only at q1 hb1 s1 ⊢
    have k1 := rp.cell s1
    obtain ⟨ra, ma⟩ := rp.put s1 (eC n1 (0 : Nat) (0 : Nat) .nils 0)
    have ma : Mod (fun j => j = i ∨ j = h0.length) hp _ := ma
    have mhp : Mod (fun _ => False) H0 hp := m0.trans mp fun _ _ h => h
    generalize setR hp i x a1 b1 = g1 at *
    obtain ⟨ha, hha⟩ : ∃ ha : Heap, ha = g1.set h0.length ⟨.var, eC n1 (0 : Nat) (0 : Nat) .nils 0⟩ := ⟨_, rfl⟩
    rw [← hha] at ra ma
    have z1 : ((2 : Nat) : Int) = 2 := rfl
    have z2 : ((72057594037927935 : Nat) : Int) = 72057594037927935 := rfl
    rw [z1] at q1
    have w1 := wi64n hb1
    have q2 := spec75 ra.rd (most := 72057594037927935) (by omega)
    have s2 := rNum_go ra.rd 72057594037927935
    generalize rNum l a1 b1 72057594037927935 = D2 at *
    obtain ⟨n2, a2, b2⟩ := D2
    simp only at q2 s2 ⊢
    rw [z2] at q2
    have ka := ra.cell s2
    obtain ⟨rb, mb⟩ := ra.put s2 (eC n1 n2 (0 : Nat) .nils 0)
    generalize setR ha i x a2 b2 = g2 at *
    obtain ⟨hb, hhb⟩ : ∃ hb : Heap, hb = g2.set h0.length ⟨.var, eC n1 n2 (0 : Nat) .nils 0⟩ := ⟨_, rfl⟩
    rw [← hhb] at rb mb
    have q3 := spec75 rb.rd (most := 72057594037927935) (by omega)
    have s3 := rNum_go rb.rd 72057594037927935
    generalize rNum l a2 b2 72057594037927935 = D3 at *
    obtain ⟨n3, a3, b3⟩ := D3
    simp only at q3 s3 ⊢
    rw [z2] at q3
    have kb := rb.cell s3
    obtain ⟨rc, mc⟩ := rb.put s3 (eC n1 n2 n3 .nils 0)
    generalize setR hb i x a3 b3 = g3 at *
    obtain ⟨hc, hhc⟩ : ∃ hc : Heap, hc = g3.set h0.length ⟨.var, eC n1 n2 n3 .nils 0⟩ := ⟨_, rfl⟩
    rw [← hhc] at rc mc
    obtain ⟨h3, z, run, r3, m3, own, new⟩ := sw_p rc (v2 := [.sc (.ptr h.length 0 5)])
    generalize entTail l n1 a3 b3 = t at *
    obtain ⟨T, cf, a4, b4⟩ := t
    simp only at r3 own ⊢
    have q4 := spec77 r3.rd
    have k4 := r3.at_
    have bp : hp[h.length]? = some ⟨.var, [.int .i64 0, .int .u64 0, .int .u64 0, .nils, .int .i64 0]⟩ := mhp.get bH0 fun h => h
    have m4 : Mod (fun j => j = i ∨ j = h0.length) hp h3 := ((ma.trans mb fun _ _ h => h).trans mc fun _ _ h => h).trans m3 fun _ _ h => h
    have hli : H0.length ≤ i := by omega
    have hlp : H0.length ≤ h0.length := m0.1
    have k5 : h3[h.length]? = some ⟨.var, [.int .i64 0, .int .u64 0, .int .u64 0, .nils, .int .i64 0]⟩ := m4.get bp (by omega)
    have k6 : ∀ B : Blk, (h3.set h.length B)[h.length]? = some B := fun B => get_set_same k5
    have t3 : Mod (fun j => h.length ≤ j) h h3 := ((mH0.mono fun _ _ h => h.elim).trans (mhp.mono fun _ _ h => h.elim) fun _ _ h => h).trans (m4.mono fun j _ e => by rcases e with e | e <;> omega) fun _ _ h => h
    have m5 : ∀ c : List SV, Mod (fun _ => False) h (h3.set h.length ⟨.var, c⟩) := fun c => by
      have t1 : Mod (fun j => j = h.length) h3 (h3.set h.length ⟨.var, c⟩) := Mod.set _ _ rfl
      exact Mod.old (t3.trans (t1.mono fun j _ e => by omega) fun _ _ h => h)
    have hhc1 : H0.length ≤ hc.length := Nat.le_trans mhp.1 (Nat.le_trans ma.1 (Nat.le_trans mb.1 mc.1))
    have own5 : ∀ c : List SV, Own (h3.set h.length ⟨.var, c⟩) z 5 1 T.length (Go.Abs.bytes T) := fun c => own.mod (Mod.set _ _ rfl : Mod (fun j => j = h.length) h3 _) fun j hj e => by have := new j hj; omega
    have new5 : ∀ j, blk z j → h.length ≤ j := fun j hj => by have := new j hj; omega
    have q5 := spec42 (kind := (n1 : Int)) (conf := (cf : Int)) (term := n2) (index := n3) own.row
    have head : ∀ (R : ACode → Env → Heap → Option (AEx × Env × Heap)) (RO : List AOper → Env → Heap → Option (Env × Heap)) (RD : List (AOper × DM) → Env → Heap → Option (Env × Heap)) (RT : List (AOper × DM) → Env → Heap → Option (Env × Heap × List Heap × List Chk)) (r : Option (AEx × Env × Heap)), Mach F O R RO RD RT → R (sqd 8 M.a45.body) [(2, [.sc (.ptr h.length 0 5)]), (4, [.sc (.ptr i 0 3)]), (5, [.sc (.ptr h0.length 0 5)])] h3 = r → R M.a45.body (envFrom 0 [[.sc y]]) h = r := fun R RO RD RT r E hr => by
      have run := E.run run
      unfold eC at *
      refine seqM E (e1 := [(0, [.sc y]), (2, [.sc (.ptr h.length 0 5)])]) (h1 := H0) ?_ (seqM E (e1 := [(0, [.sc y]), (2, [.sc (.ptr h.length 0 5)]), (9, [.sc (.bool false)])]) (h1 := H0) ?_ (seqM E (e1 := [(2, [.sc (.ptr h.length 0 5)]), (4, [.sc (.ptr i 0 3)])]) (h1 := h0) ?_ (seqM E (e1 := [(2, [.sc (.ptr h.length 0 5)]), (4, [.sc (.ptr i 0 3)]), (5, [.sc (.ptr h0.length 0 5)])]) (h1 := hp) ?_ (seqM E (e1 := [(2, [.sc (.ptr h.length 0 5)]), (4, [.sc (.ptr i 0 3)]), (5, [.sc (.ptr h0.length 0 5)])]) (h1 := ha) ?_ (seqM E (e1 := [(2, [.sc (.ptr h.length 0 5)]), (4, [.sc (.ptr i 0 3)]), (5, [.sc (.ptr h0.length 0 5)])]) (h1 := hb) ?_ (seqM E (e1 := [(2, [.sc (.ptr h.length 0 5)]), (4, [.sc (.ptr i 0 3)]), (5, [.sc (.ptr h0.length 0 5)])]) (h1 := hc) ?_ (seqM E run hr)))))))
      · simp [E.eqs, ← hH0]
      · simp [E.eqs, e1, c1]
      · simp [E.eqs, n0]
      · simp [E.eqs, ← hhp]
      · simp [E.eqs, q1, w1, fldA, freshB, storeA, k1, hha]
      · simp [E.eqs, q2, fldA, freshB, storeA, ka, hhb]
      · simp [E.eqs, q3, fldA, freshB, storeA, kb, hhc]
    clear ra rb rc r3 ma mb mc m3 m4 s1 s2 s3 run
    have hright : En.right ⟨(n1 : Int), n2, n3, T, (cf : Int)⟩ = rightE n1 n2 n3 T.length cf := rfl
    rw [hright]
    have fz : Fresh h (h3.set h.length ⟨.var, [.int .i64 0, .int .u64 0, .int .u64 0, .nils, .int .i64 0]⟩) .nils [] := Fresh.nils (m5 _)
    have fx : Fresh h (h3.set h.length ⟨.var, [.int .i64 n1, .int .u64 n2, .int .u64 n3, z, .int .i64 cf]⟩) z T := ⟨own5 _, m5 _, new5⟩
    unfold eC at *
    by_cases ce : rEnd l a4 b4 = 0
    · cases cr : rightE n1 n2 n3 T.length cf
      · rw [if_pos (show rEnd l a4 b4 = 0 ∧ false = false from ⟨ce, rfl⟩), if_neg (show ¬ (11 : Nat) = 0 by omega)]
        rw [ce] at q4
        rw [cr] at q5
        refine ⟨_, .nils, callX (hh := trim h (h3.set h.length ⟨.var, [.int .i64 0, .int .u64 0, .int .u64 0, .nils, .int .i64 0]⟩) [.agg [.int .i64 0, .int .u64 0, .int .u64 0, .nils, .int .i64 0], .sc (.int .i64 11)]) rfl (by rfl : F 45 = some M.a45) (fun R RO RD RT E => ?_), fz.trimE _ _ _ _ _⟩
        rw [head R RO RD RT _ E rfl]
        simp [M.a45, sqd, E.eqs, freshB, loadA, storeA, q4, q5, k4, k5, k6, En.c, En.zero, eC]
      · rw [if_neg (show ¬ (rEnd l a4 b4 = 0 ∧ true = false) from fun h => absurd h.2 (by simp)), if_pos ce]
        rw [ce] at q4
        rw [cr] at q5
        refine ⟨_, z, callX (hh := trim h (h3.set h.length ⟨.var, [.int .i64 n1, .int .u64 n2, .int .u64 n3, z, .int .i64 cf]⟩) [.agg [.int .i64 n1, .int .u64 n2, .int .u64 n3, z, .int .i64 cf], .sc (.int .i64 0)]) rfl (by rfl : F 45 = some M.a45) (fun R RO RD RT E => ?_), fx.trimE _ _ _ _ _⟩
        rw [head R RO RD RT _ E rfl]
        simp [M.a45, sqd, E.eqs, freshB, loadA, storeA, q4, q5, k4, k5, k6, En.c, eC]
    · rw [if_neg (show ¬ (rEnd l a4 b4 = 0 ∧ rightE n1 n2 n3 T.length cf = false) from fun h => ce h.1), if_neg ce]
      have ce' : ¬ ((rEnd l a4 b4 : Nat) : Int) = 0 := by omega
      refine ⟨_, .nils, callX (hh := trim h (h3.set h.length ⟨.var, [.int .i64 0, .int .u64 0, .int .u64 0, .nils, .int .i64 0]⟩) [.agg [.int .i64 0, .int .u64 0, .int .u64 0, .nils, .int .i64 0], .sc (.int .i64 (rEnd l a4 b4 : Nat))]) rfl (by rfl : F 45 = some M.a45) (fun R RO RD RT E => ?_), fz.trimE _ _ _ _ _⟩
      rw [head R RO RD RT _ E rfl]
      generalize rEnd l a4 b4 = e at *
      simp [M.a45, sqd, E.eqs, freshB, loadA, storeA, q4, q5, ce, ce', k4, k5, k6, En.c, En.zero, eC]

set_option maxHeartbeats 2000000 in
theorem spec46 {h : Heap} {y : SV} {l : List UInt8} (hy : Row h y 1 l.length (Go.Abs.bytes l)) (hl : l.length ≤ 140737488353280) : ∃ h' z, call 46 [[.sc y]] h = some ([.agg ((rEnt l).1.c z), .sc (.int .i64 (rEnt l).2)], h') ∧ Fresh h h' z (rEnt l).1.T := by
  obtain ⟨H0, hH0⟩ : ∃ H0 : Heap, H0 = h ++ [⟨.var, [.int .i64 0, .int .u64 0, .int .u64 0, .nils, .int .i64 0]⟩] := ⟨_, rfl⟩
  have mH0 : Mod (fun _ => False) h H0 := by rw [hH0]; exact Mod.app _ _ _
  have bH0 : H0[h.length]? = some ⟨.var, [.int .i64 0, .int .u64 0, .int .u64 0, .nils, .int .i64 0]⟩ := by rw [hH0]; simp
  have lH0 : H0.length = h.length + 1 := by rw [hH0]; simp
  have hy0 := hy.mod mH0 fun _ _ h => h
  have e1 := lenA_row hy0
  unfold rEnt
  by_cases hbig : 160 < l.length
  · rw [if_pos hbig]
    have c1 : (160 : Int) < l.length := by omega
    have kk : ∀ B : Blk, (H0.set h.length B)[h.length]? = some B := fun B => get_set_same bH0
    have mm : Mod (fun _ => False) h (H0.set h.length ⟨.var, [.int .i64 0, .int .u64 0, .int .u64 0, .nils, .int .i64 0]⟩) := mH0.trans (Mod.set _ _ rfl : Mod (fun j => j = h.length) H0 (H0.set h.length ⟨.var, [.int .i64 0, .int .u64 0, .int .u64 0, .nils, .int .i64 0]⟩)) fun j hj e => by omega
    refine ⟨_, .nils, callX (hh := trim h (H0.set h.length ⟨.var, [.int .i64 0, .int .u64 0, .int .u64 0, .nils, .int .i64 0]⟩) [.agg [.int .i64 0, .int .u64 0, .int .u64 0, .nils, .int .i64 0], .sc (.int .i64 12)]) rfl (by rfl : F 46 = some M.a46) (fun R RO RD RT E => ?_), (Fresh.nils mm).trimE _ _ _ _ _⟩
    simp [M.a46, E.eqs, ← hH0, e1, c1, bH0, kk, freshB, loadA, storeA, En.c, En.zero, eC]
  · rw [if_neg hbig]
    have c1 : ¬ (160 : Int) < l.length := by omega
    obtain ⟨i, hi⟩ : ∃ i, i = H0.length := ⟨_, rfl⟩
    obtain ⟨x, hxy⟩ : ∃ x, x = y := ⟨_, rfl⟩
    obtain ⟨h0, hh0⟩ : ∃ h0 : Heap, h0 = H0 ++ [⟨.var, [y, .int .i64 0, .int .i64 0]⟩] := ⟨_, rfl⟩
    have m0 : Mod (fun _ => False) H0 h0 := by rw [hh0]; exact Mod.app _ _ _
    have lx : ∀ j, blk x j → j < H0.length + 1 := fun j hj => by have := hy0.lt j (hxy ▸ hj); omega
    have r0 : Rd h0 i x l 0 0 := ⟨by rw [hh0, hi, hxy]; simp, by rw [hxy]; exact hy0.mod m0 fun _ _ h => h, fun hb => by rw [hxy] at hb; have := hy0.lt i hb; omega, hl, by omega, by omega⟩
    have hlt := r0.lt
    have q1 := spec78 r0 (most := 2) (by omega)
    have s1 := rByte_go r0 2
    have hb1 := (rByte_lt l 0 0 2).2.2
    generalize rByte l 0 0 2 = D1 at *
    obtain ⟨n1, a1, b1⟩ := D1
    simp only at q1 hb1 s1 ⊢
    have lg : (setR h0 i x a1 b1).length = h0.length := setR_length
    obtain ⟨hp, hhp⟩ : ∃ hp : Heap, hp = h0 := ⟨_, rfl⟩
    have mhp : Mod (fun _ => False) H0 hp := by rw [hhp]; exact m0
    generalize setR h0 i x a1 b1 = g1 at *
    obtain ⟨ha, hha⟩ : ∃ ha : Heap, ha = g1 ++ [⟨.var, eC n1 (0 : Nat) (0 : Nat) .nils 0⟩] := ⟨_, rfl⟩
    have ra : RB ha i x l h0.length (eC n1 (0 : Nat) (0 : Nat) .nils 0) a1 b1 := ⟨by rw [hha]; exact s1.rd.app _, by rw [hha, ← lg]; simp, by omega, fun hb => by have := lx _ hb; omega⟩
    have ma : Mod (fun j => j = i ∨ j = h0.length) hp ha := by
      rw [hhp, hha]
      exact (s1.mod.mono fun j _ e => .inl e).trans (Mod.app (fun j => j = i ∨ j = h0.length) _ _) fun _ _ h => h
    have z1 : ((2 : Nat) : Int) = 2 := rfl
    have z2 : ((72057594037927935 : Nat) : Int) = 72057594037927935 := rfl
    rw [z1] at q1
    have w1 := wi64n hb1
    have q2 := spec79 ra.rd (most := 72057594037927935) (by omega)
    have s2 := rNum_go ra.rd 72057594037927935
    generalize rNum l a1 b1 72057594037927935 = D2 at *
    obtain ⟨n2, a2, b2⟩ := D2
    simp only at q2 s2 ⊢
    rw [z2] at q2
    have ka := ra.cell s2
    obtain ⟨rb, mb⟩ := ra.put s2 (eC n1 n2 (0 : Nat) .nils 0)
    generalize setR ha i x a2 b2 = g2 at *
    obtain ⟨hb, hhb⟩ : ∃ hb : Heap, hb = g2.set h0.length ⟨.var, eC n1 n2 (0 : Nat) .nils 0⟩ := ⟨_, rfl⟩
    rw [← hhb] at rb mb
    have q3 := spec79 rb.rd (most := 72057594037927935) (by omega)
    have s3 := rNum_go rb.rd 72057594037927935
    generalize rNum l a2 b2 72057594037927935 = D3 at *
    obtain ⟨n3, a3, b3⟩ := D3
    simp only at q3 s3 ⊢
    rw [z2] at q3
    have kb := rb.cell s3
    obtain ⟨rc, mc⟩ := rb.put s3 (eC n1 n2 n3 .nils 0)
    generalize setR hb i x a3 b3 = g3 at *
    obtain ⟨hc, hhc⟩ : ∃ hc : Heap, hc = g3.set h0.length ⟨.var, eC n1 n2 n3 .nils 0⟩ := ⟨_, rfl⟩
    rw [← hhc] at rc mc
    obtain ⟨h3, z, run, r3, m3, own, new⟩ := sw_r rc (v2 := [.sc (.ptr h.length 0 5)])
    generalize entTail l n1 a3 b3 = t at *
    obtain ⟨T, cf, a4, b4⟩ := t
    simp only at r3 own ⊢
    have q4 := spec81 r3.rd
    have k4 := r3.at_
    have bp : hp[h.length]? = some ⟨.var, [.int .i64 0, .int .u64 0, .int .u64 0, .nils, .int .i64 0]⟩ := mhp.get bH0 fun h => h
    have m4 : Mod (fun j => j = i ∨ j = h0.length) hp h3 := ((ma.trans mb fun _ _ h => h).trans mc fun _ _ h => h).trans m3 fun _ _ h => h
    have hli : H0.length ≤ i := by omega
    have hlp : H0.length ≤ h0.length := m0.1
    have k5 : h3[h.length]? = some ⟨.var, [.int .i64 0, .int .u64 0, .int .u64 0, .nils, .int .i64 0]⟩ := m4.get bp (by omega)
    have k6 : ∀ B : Blk, (h3.set h.length B)[h.length]? = some B := fun B => get_set_same k5
    have t3 : Mod (fun j => h.length ≤ j) h h3 := ((mH0.mono fun _ _ h => h.elim).trans (mhp.mono fun _ _ h => h.elim) fun _ _ h => h).trans (m4.mono fun j _ e => by rcases e with e | e <;> omega) fun _ _ h => h
    have m5 : ∀ c : List SV, Mod (fun _ => False) h (h3.set h.length ⟨.var, c⟩) := fun c => by
      have t1 : Mod (fun j => j = h.length) h3 (h3.set h.length ⟨.var, c⟩) := Mod.set _ _ rfl
      exact Mod.old (t3.trans (t1.mono fun j _ e => by omega) fun _ _ h => h)
    have hhc1 : H0.length ≤ hc.length := Nat.le_trans mhp.1 (Nat.le_trans ma.1 (Nat.le_trans mb.1 mc.1))
    have own5 : ∀ c : List SV, Own (h3.set h.length ⟨.var, c⟩) z 5 1 T.length (Go.Abs.bytes T) := fun c => own.mod (Mod.set _ _ rfl : Mod (fun j => j = h.length) h3 _) fun j hj e => by have := new j hj; omega
    have new5 : ∀ j, blk z j → h.length ≤ j := fun j hj => by have := new j hj; omega
    have q5 := spec43 (kind := (n1 : Int)) (conf := (cf : Int)) (term := n2) (index := n3) own.row
    have head : ∀ (R : ACode → Env → Heap → Option (AEx × Env × Heap)) (RO : List AOper → Env → Heap → Option (Env × Heap)) (RD : List (AOper × DM) → Env → Heap → Option (Env × Heap)) (RT : List (AOper × DM) → Env → Heap → Option (Env × Heap × List Heap × List Chk)) (r : Option (AEx × Env × Heap)), Mach F O R RO RD RT → R (sqd 7 M.a46.body) [(2, [.sc (.ptr h.length 0 5)]), (4, [.sc (.ptr i 0 3)]), (5, [.sc (.ptr h0.length 0 5)])] h3 = r → R M.a46.body (envFrom 0 [[.sc y]]) h = r := fun R RO RD RT r E hr => by
      have run := E.run run
      unfold eC at *
      refine seqM E (e1 := [(0, [.sc y]), (2, [.sc (.ptr h.length 0 5)])]) (h1 := H0) ?_ (seqM E (e1 := [(0, [.sc y]), (2, [.sc (.ptr h.length 0 5)]), (9, [.sc (.bool false)])]) (h1 := H0) ?_ (seqM E (e1 := [(2, [.sc (.ptr h.length 0 5)]), (4, [.sc (.ptr i 0 3)])]) (h1 := h0) ?_ (seqM E (e1 := [(2, [.sc (.ptr h.length 0 5)]), (4, [.sc (.ptr i 0 3)]), (5, [.sc (.ptr h0.length 0 5)])]) (h1 := ha) ?_ (seqM E (e1 := [(2, [.sc (.ptr h.length 0 5)]), (4, [.sc (.ptr i 0 3)]), (5, [.sc (.ptr h0.length 0 5)])]) (h1 := hb) ?_ (seqM E (e1 := [(2, [.sc (.ptr h.length 0 5)]), (4, [.sc (.ptr i 0 3)]), (5, [.sc (.ptr h0.length 0 5)])]) (h1 := hc) ?_ (seqM E run hr))))))
      · simp [E.eqs, ← hH0]
      · simp [E.eqs, e1, c1]
      · simp [E.eqs, ← hh0, hi]
      · simp [E.eqs, q1, w1, fldA, freshB, storeA, hha, lg]
      · simp [E.eqs, q2, fldA, freshB, storeA, ka, hhb]
      · simp [E.eqs, q3, fldA, freshB, storeA, kb, hhc]
    clear ra rb rc r3 ma mb mc m3 m4 s1 s2 s3 run
    have hright : En.right ⟨(n1 : Int), n2, n3, T, (cf : Int)⟩ = rightE n1 n2 n3 T.length cf := rfl
    rw [hright]
    have fz : Fresh h (h3.set h.length ⟨.var, [.int .i64 0, .int .u64 0, .int .u64 0, .nils, .int .i64 0]⟩) .nils [] := Fresh.nils (m5 _)
    have fx : Fresh h (h3.set h.length ⟨.var, [.int .i64 n1, .int .u64 n2, .int .u64 n3, z, .int .i64 cf]⟩) z T := ⟨own5 _, m5 _, new5⟩
    unfold eC at *
    by_cases ce : rEnd l a4 b4 = 0
    · cases cr : rightE n1 n2 n3 T.length cf
      · rw [if_pos (show rEnd l a4 b4 = 0 ∧ false = false from ⟨ce, rfl⟩), if_neg (show ¬ (11 : Nat) = 0 by omega)]
        rw [ce] at q4
        rw [cr] at q5
        refine ⟨_, .nils, callX (hh := trim h (h3.set h.length ⟨.var, [.int .i64 0, .int .u64 0, .int .u64 0, .nils, .int .i64 0]⟩) [.agg [.int .i64 0, .int .u64 0, .int .u64 0, .nils, .int .i64 0], .sc (.int .i64 11)]) rfl (by rfl : F 46 = some M.a46) (fun R RO RD RT E => ?_), fz.trimE _ _ _ _ _⟩
        rw [head R RO RD RT _ E rfl]
        simp [M.a46, sqd, E.eqs, freshB, loadA, storeA, q4, q5, k4, k5, k6, En.c, En.zero, eC]
      · rw [if_neg (show ¬ (rEnd l a4 b4 = 0 ∧ true = false) from fun h => absurd h.2 (by simp)), if_pos ce]
        rw [ce] at q4
        rw [cr] at q5
        refine ⟨_, z, callX (hh := trim h (h3.set h.length ⟨.var, [.int .i64 n1, .int .u64 n2, .int .u64 n3, z, .int .i64 cf]⟩) [.agg [.int .i64 n1, .int .u64 n2, .int .u64 n3, z, .int .i64 cf], .sc (.int .i64 0)]) rfl (by rfl : F 46 = some M.a46) (fun R RO RD RT E => ?_), fx.trimE _ _ _ _ _⟩
        rw [head R RO RD RT _ E rfl]
        simp [M.a46, sqd, E.eqs, freshB, loadA, storeA, q4, q5, k4, k5, k6, En.c, eC]
    · rw [if_neg (show ¬ (rEnd l a4 b4 = 0 ∧ rightE n1 n2 n3 T.length cf = false) from fun h => ce h.1), if_neg ce]
      have ce' : ¬ ((rEnd l a4 b4 : Nat) : Int) = 0 := by omega
      refine ⟨_, .nils, callX (hh := trim h (h3.set h.length ⟨.var, [.int .i64 0, .int .u64 0, .int .u64 0, .nils, .int .i64 0]⟩) [.agg [.int .i64 0, .int .u64 0, .int .u64 0, .nils, .int .i64 0], .sc (.int .i64 (rEnd l a4 b4 : Nat))]) rfl (by rfl : F 46 = some M.a46) (fun R RO RD RT E => ?_), fz.trimE _ _ _ _ _⟩
      rw [head R RO RD RT _ E rfl]
      generalize rEnd l a4 b4 = e at *
      simp [M.a46, sqd, E.eqs, freshB, loadA, storeA, q4, q5, ce, ce', k4, k5, k6, En.c, En.zero, eC]
end Go.Proofs.Ytoghoddofokekaa
end

section
set_option linter.unusedVariables false
set_option linter.unusedSimpArgs false
set_option maxRecDepth 100000
namespace Go.Proofs.Ytoghoddofokekaa
open Go.Abs

theorem app_nil1 (h : Heap) (a b c d e : SV) : appA h 57 5 56 (.sc .nils) (.imm 1 [a, b, c, d, e]) = some ([.sc (.sl h.length 0 1 5)], h ++ [⟨.row 57 5, [a, b, c, d, e]⟩]) := by
  simp [appA, srcOf, lim]

section
variable {h : Heap} {x x1 x2 : SV} {T : List UInt8} {kind conf : Int} {term index b : Nat}

theorem spec44 (h1 : Row h x1 1 T.length (Go.Abs.bytes T)) (h2 : Row h x2 1 T.length (Go.Abs.bytes T)) : call 44 [[.agg (eC kind term index x1 conf)], [.agg (eC kind term index x2 conf)]] h = some ([.sc (.bool true)], h) := by
  obtain ⟨ha, hha⟩ : ∃ ha : Heap, ha = h ++ [⟨.var, [.int .i64 kind, .int .u64 term, .int .u64 index, x1, .int .i64 conf]⟩] := ⟨_, rfl⟩
  obtain ⟨hb, hhb⟩ : ∃ hb : Heap, hb = ha ++ [⟨.var, [.int .i64 kind, .int .u64 term, .int .u64 index, x2, .int .i64 conf]⟩] := ⟨_, rfl⟩
  have ma : Mod (fun _ => False) h ha := by rw [hha]; exact Mod.app _ _ _
  have mb : Mod (fun _ => False) ha hb := by rw [hhb]; exact Mod.app _ _ _
  have ba : hb[h.length]? = some ⟨.var, [.int .i64 kind, .int .u64 term, .int .u64 index, x1, .int .i64 conf]⟩ := mb.get (by rw [hha]; simp) fun h => h
  have bb : hb[ha.length]? = some ⟨.var, [.int .i64 kind, .int .u64 term, .int .u64 index, x2, .int .i64 conf]⟩ := by rw [hhb]; simp
  have tr : trim h hb [.sc (.bool true)] = h := by rw [hhb, hha, List.append_assoc]; exact trim_pure rfl
  have s1 := b2sA_row ((h1.mod ma fun _ _ h => h).mod mb fun _ _ h => h)
  have s2 := b2sA_row ((h2.mod ma fun _ _ h => h).mod mb fun _ _ h => h)
  refine callX rfl (by rfl : F 44 = some M.a44) (fun R RO RD RT E => ?_)
  unfold eC
  simp [M.a44, E.eqs, ← hha, ← hhb, ba, bb, tr, fldA, freshB, loadA, s1, s2]

theorem copy_one (hB : h[b]? = some ⟨.row 57 5, eC kind term index x conf⟩) (hx : Row h x 1 T.length (Go.Abs.bytes T)) (hl : T.length ≤ 140737488353280) :
    call 39 [[.sc (.sl b 0 1 5)]] h = some ([.sc (.sl (h.length + 2) 0 1 5)], h ++ [⟨.var, eC kind term index (.sl (h.length + 1) 0 T.length T.length) conf⟩, ⟨.row 5 1, Go.Abs.bytes T⟩, ⟨.row 57 5, eC kind term index (.sl (h.length + 1) 0 T.length T.length) conf⟩]) := by
  obtain ⟨ha, hha⟩ : ∃ ha : Heap, ha = h ++ [⟨.var, eC kind term index x conf⟩] := ⟨_, rfl⟩
  have ma : Mod (fun _ => False) h ha := by rw [hha]; exact Mod.app _ _ _
  have a1 := copy_app (hx.mod ma fun _ _ h => h) (by omega)
  have la : ha.length = h.length + 1 := by rw [hha]; simp
  rw [la] at a1
  unfold eC at *
  have hlt := lt_of_get hB
  have bA : ∀ t : Heap, (ha ++ t)[b]? = some ⟨.row 57 5, [.int .i64 kind, .int .u64 term, .int .u64 index, x, .int .i64 conf]⟩ := fun t => by rw [hha, List.append_assoc, List.getElem?_append_left hlt]; exact hB
  have bC : ∀ t : Heap, (ha ++ t)[h.length]? = some ⟨.var, [.int .i64 kind, .int .u64 term, .int .u64 index, x, .int .i64 conf]⟩ := fun t => by rw [hha, List.append_assoc]; simp
  have bS : ∀ (t : Heap) (B : Blk), (ha ++ t).set h.length B = h ++ (B :: t) := fun t B => by rw [hha, List.append_assoc]; simp
  have lo : loopE F O (.loop [0, 3, 4] M.b39_0) [(0, [.sc (.sl b 0 1 5)]), (3, [.sc .nils]), (4, [.sc (.int .i64 0)])] h = some (.exit 0, [(0, [.sc (.sl b 0 1 5)]), (3, [.sc (.sl (h.length + 2) 0 1 5)]), (4, [.sc (.int .i64 1)]), (9, [.sc (.bool false)])], h ++ [⟨.var, [.int .i64 kind, .int .u64 term, .int .u64 index, .sl (h.length + 1) 0 T.length T.length, .int .i64 conf]⟩, ⟨.row 5 1, Go.Abs.bytes T⟩, ⟨.row 57 5, [.int .i64 kind, .int .u64 term, .int .u64 index, .sl (h.length + 1) 0 T.length T.length, .int .i64 conf]⟩]) := by
    refine stepM (e1 := [(0, [.sc (.sl b 0 1 5)]), (3, [.sc (.sl (h.length + 2) 0 1 5)]), (4, [.sc (.int .i64 1)])]) (h1 := h ++ [⟨.var, [.int .i64 kind, .int .u64 term, .int .u64 index, .sl (h.length + 1) 0 T.length T.length, .int .i64 conf]⟩, ⟨.row 5 1, Go.Abs.bytes T⟩, ⟨.row 57 5, [.int .i64 kind, .int .u64 term, .int .u64 index, .sl (h.length + 1) 0 T.length T.length, .int .i64 conf]⟩]) (fun R RO RD RT E => ?_) (exitM fun R RO RD RT E => ?_)
    · simp [M.b39_0, E.eqs, lenA, ixsA, fldA, freshB, loadA, storeA, hB, ← hha, la, a1, bA, bC, bS, app_nil1, show IntKind.i64.wrap 1 = 1 from rfl]
    · simp [M.b39_0, E.eqs, lenA, freshB, hB, List.getElem?_append_left hlt]
  refine callX rfl (by rfl : F 39 = some M.a39) (fun R RO RD RT E => ?_)
  have lo := E.run (loop_run lo)
  simp [M.a39, E.eqs, lo, trim, pureT, pureV, pureS]

/-- an entry that may be, of a raw one -/
theorem entries_one {ix tm : Nat} (hB : h[b]? = some ⟨.row 57 5, eC kind term index x conf⟩) (hx : Row h x 1 T.length (Go.Abs.bytes T)) (hl : T.length ≤ 140737488353280) (hix : ix < 1000) (htm : tm < 1000) (hterm : term < 18446744073709551616)
    (k1 : -9223372036854775808 ≤ kind) (k2 : kind < 9223372036854775808) (c1 : -9223372036854775808 ≤ conf) (c2 : conf < 9223372036854775808) :
    ∃ (h' : Heap) (zb : Nat) (kind' conf' : Int) (term' index' : Nat) (x' : SV) (T' : List UInt8), call 90 [[.sc (.int .u64 ix)], [.sc (.int .u64 tm)], [.sc (.sl b 0 1 5)], [.sc (.int .i64 1)]] h = some ([.sc (.sl zb 0 1 5)], h') ∧ h'[zb]? = some ⟨.row 57 5, eC kind' term' index' x' conf'⟩ ∧
      Mod (fun _ => False) h h' ∧ (∀ j, blk x' j → h.length ≤ j) ∧ Row h' x' 1 T'.length (Go.Abs.bytes T') ∧ T'.length ≤ 31 ∧ term' < 18446744073709551616 ∧ index' < 18446744073709551616 ∧ rightE kind' term' index' T'.length conf' = true := by
  have pk1 := fun h => spec29 h (n := kind) (m := 8) (by omega) (by omega) k1 k2
  have pk2 := fun h => spec29 h (n := conf) (m := 3) (by omega) (by omega) c1 c2
  have pk3 := fun h => spec29 h (n := ((term % 200 : Nat) : Int)) (m := 31) (by omega) (by omega) (by omega) (by omega)
  obtain ⟨d, hd, hd1⟩ : ∃ d : Nat, IntKind.i64.wrap ((kind % 8).tdiv 6) = (d : Int) ∧ d ≤ 1 := by
    have e0 := Int.emod_nonneg kind (b := 8) (by omega)
    have e1 := Int.emod_lt_of_pos kind (b := 8) (by omega)
    refine ⟨((kind % 8) / 6).toNat, ?_, by omega⟩
    rw [Int.tdiv_eq_ediv_of_nonneg e0, wi64 (by omega) (by omega)]
    omega
  have w1 : IntKind.u64.wrap ((ix : Int) + 1) = ((ix + 1 : Nat) : Int) := by rw [wu64']; omega
  have w2 : IntKind.u64.wrap (d : Int) = (d : Int) := wu64 (by omega) (by omega)
  have w3 : IntKind.u64.wrap ((tm : Int) + d) = ((tm + d : Nat) : Int) := by rw [wu64']; omega
  have e0 := Int.emod_nonneg conf (b := 3) (by omega)
  have e1 := Int.emod_lt_of_pos conf (b := 3) (by omega)
  have hlt := lt_of_get hB
  generalize kind % 8 = kd at *
  generalize conf % 3 = kk at *
  unfold eC at *
  have bAt : ∀ t : Heap, (h ++ t)[b]? = some ⟨.row 57 5, [.int .i64 kind, .int .u64 term, .int .u64 index, x, .int .i64 conf]⟩ := fun t => by rw [List.getElem?_append_left hlt]; exact hB
  have lny : lenA h [.sc (.sl b 0 1 5)] = some ([.sc (.int .i64 1)], h) := by simp [lenA, freshB, hB]
  have lnyt : ∀ t : Heap, lenA (h ++ t) [.sc (.sl b 0 1 5)] = some ([.sc (.int .i64 1)], h ++ t) := fun t => by simp [lenA, freshB, bAt]
  obtain ⟨ix1, hix1⟩ : ∃ ix1, ix1 = ix + 1 := ⟨_, rfl⟩
  obtain ⟨tm1, htm1⟩ : ∃ tm1, tm1 = tm + d := ⟨_, rfl⟩
  obtain ⟨tm2, htm2⟩ : ∃ tm2, tm2 = max 1 tm1 := ⟨_, rfl⟩
  have wm : (if (1 : Int) < (tm1 : Int) then (tm1 : Int) else 1) = (tm2 : Int) := by split <;> omega
  rw [← hix1] at w1
  rw [← htm1] at w3
  have okt : numOk tm2 = true := by simp [numOk]; omega
  have oki : numOk ix1 = true := by simp [numOk]; omega
  have hk : kk = 0 ∨ kk = 1 ∨ kk = 2 := by omega
  rcases hk with rfl | rfl | rfl
  · skip
    have lo : loopE F O (.loop [0, 1, 2, 3, 9, 10] M.b90_0) [(0, [.sc (.int .u64 ix)]), (1, [.sc (.int .u64 tm)]), (2, [.sc (.sl b 0 1 5)]), (3, [.sc (.int .i64 1)]), (9, [.sc .nils]), (10, [.sc (.int .i64 0)])] h = some (.exit 0, [(0, [.sc (.int .u64 ix1)]), (1, [.sc (.int .u64 tm1)]), (2, [.sc (.sl b 0 1 5)]), (3, [.sc (.int .i64 1)]), (9, [.sc (.sl (h.length + 1) 0 1 5)]), (10, [.sc (.int .i64 1)]), (20, [.sc (.bool false)])], h ++ [⟨.var, [.int .i64 0, .int .u64 tm2, .int .u64 ix1, .nils, .int .i64 0]⟩, ⟨.row 57 5, [.int .i64 0, .int .u64 tm2, .int .u64 ix1, .nils, .int .i64 0]⟩]) := by
      refine stepM (e1 := [(0, [.sc (.int .u64 ix1)]), (1, [.sc (.int .u64 tm1)]), (2, [.sc (.sl b 0 1 5)]), (3, [.sc (.int .i64 1)]), (9, [.sc (.sl (h.length + 1) 0 1 5)]), (10, [.sc (.int .i64 1)])]) (h1 := h ++ [⟨.var, [.int .i64 0, .int .u64 tm2, .int .u64 ix1, .nils, .int .i64 0]⟩, ⟨.row 57 5, [.int .i64 0, .int .u64 tm2, .int .u64 ix1, .nils, .int .i64 0]⟩]) (fun R RO RD RT E => ?_) (exitM fun R RO RD RT E => ?_)
      · simp [M.b90_0, E.eqs, lny, lnyt, ixsA, fldA, freshB, loadA, storeA, hB, bAt, pk1, pk2, hd, w1, w2, w3, wm, app_nil1, show IntKind.i64.wrap 1 = 1 from rfl]
      · simp [M.b90_0, E.eqs, lny, lnyt, freshB, bAt]
    refine ⟨h ++ [⟨.var, [.int .i64 0, .int .u64 tm2, .int .u64 ix1, .nils, .int .i64 0]⟩, ⟨.row 57 5, [.int .i64 0, .int .u64 tm2, .int .u64 ix1, .nils, .int .i64 0]⟩], h.length + 1, 0, 0, tm2, ix1, .nils, [], callX rfl (by rfl : F 90 = some M.a90) (fun R RO RD RT E => ?_), by simp, Mod.app _ _ _, fun j hj => hj.elim, (own_nils _).row, by simp, by omega, by omega, by simp [rightE, kindE, okt, oki]⟩
    have lo := E.run (loop_run lo)
    simp [M.a90, E.eqs, lo, trim, pureT, pureV, pureS]
  · obtain ⟨n, hn⟩ : ∃ n, n = min T.length 30 := ⟨_, rfl⟩
    have wn : (if (30 : Int) < (T.length : Int) then 30 else (T.length : Int)) = (n : Int) := by split <;> omega
    have lnx : ∀ t : Heap, lenA (h ++ t) [.sc x] = some ([.sc (.int .i64 T.length)], h ++ t) := fun t => lenA_row (hx.mod (Mod.app (fun _ => False) h t) fun _ _ h => h)
    have slx : ∀ (t : Heap) {lo hi : Nat → Option Nat}, lo 0 = some 0 → hi T.length = some n → slcA (h ++ t) 1 [.sc x] lo hi = some ([.sc (cutS x 1 0 n)], h ++ t) := fun t lo hi p q => slcA_row (hx.mod (Mod.app (fun _ => False) h t) fun _ _ h => h) p q (by omega) (by omega)
    have src : ∀ t : Heap, srcOf (h ++ t) 1 (.sc (cutS x 1 0 n)) = some (n, Go.Abs.bytes (T.take n)) := fun t => by
      have := srcOf_row (cut_row (hx.mod (Mod.app (fun _ => False) h t) fun _ _ h => h) (l := 0) (r := n) (by omega) (by omega))
      rw [this]
      simp [Go.Abs.bytes, List.map_take]
    have eb : Go.Abs.bytes (1 :: T.take n) = .int .u8 1 :: Go.Abs.bytes (T.take n) := rfl
    have hln : n + 1 ≤ lim := by simp [lim]; omega
    have hl1 : 1 + n ≤ lim := by simp [lim]; omega
    have ltn : (T.take n).length = n := by simp; omega
    have apx : ∀ B : Blk, appA (h ++ [B, ⟨.row 5 1, [.int .u8 1]⟩]) 5 1 1 (.sc (.sl (h.length + 1) 0 1 1)) (.sc (cutS x 1 0 n)) = some ([.sc (.sl (h.length + 1) 0 (1 + n) (1 + n))], h ++ [B, ⟨.row 5 1, .int .u8 1 :: Go.Abs.bytes (T.take n)⟩]) := fun B => by simp [appA, src, hl1]
    have lo : loopE F O (.loop [0, 1, 2, 3, 9, 10] M.b90_0) [(0, [.sc (.int .u64 ix)]), (1, [.sc (.int .u64 tm)]), (2, [.sc (.sl b 0 1 5)]), (3, [.sc (.int .i64 1)]), (9, [.sc .nils]), (10, [.sc (.int .i64 0)])] h = some (.exit 0, [(0, [.sc (.int .u64 ix1)]), (1, [.sc (.int .u64 tm1)]), (2, [.sc (.sl b 0 1 5)]), (3, [.sc (.int .i64 1)]), (9, [.sc (.sl (h.length + 2) 0 1 5)]), (10, [.sc (.int .i64 1)]), (20, [.sc (.bool false)])], h ++ [⟨.var, [.int .i64 1, .int .u64 tm2, .int .u64 ix1, (.sl (h.length + 1) 0 (1 + n) (1 + n)), .int .i64 0]⟩, ⟨.row 5 1, Go.Abs.bytes (1 :: T.take n)⟩, ⟨.row 57 5, [.int .i64 1, .int .u64 tm2, .int .u64 ix1, (.sl (h.length + 1) 0 (1 + n) (1 + n)), .int .i64 0]⟩]) := by
      refine stepM (e1 := [(0, [.sc (.int .u64 ix1)]), (1, [.sc (.int .u64 tm1)]), (2, [.sc (.sl b 0 1 5)]), (3, [.sc (.int .i64 1)]), (9, [.sc (.sl (h.length + 2) 0 1 5)]), (10, [.sc (.int .i64 1)])]) (h1 := h ++ [⟨.var, [.int .i64 1, .int .u64 tm2, .int .u64 ix1, (.sl (h.length + 1) 0 (1 + n) (1 + n)), .int .i64 0]⟩, ⟨.row 5 1, Go.Abs.bytes (1 :: T.take n)⟩, ⟨.row 57 5, [.int .i64 1, .int .u64 tm2, .int .u64 ix1, (.sl (h.length + 1) 0 (1 + n) (1 + n)), .int .i64 0]⟩]) (fun R RO RD RT E => ?_) (exitM fun R RO RD RT E => ?_)
      · simp [M.b90_0, E.eqs, lny, lnyt, ixsA, fldA, freshB, loadA, storeA, hB, bAt, pk1, pk2, hd, w1, w2, w3, wm, app_nil1, show IntKind.i64.wrap 1 = 1 from rfl, lnx, slx, wn, apx, eb]
      · simp [M.b90_0, E.eqs, lny, lnyt, freshB, bAt]
    refine ⟨h ++ [⟨.var, [.int .i64 1, .int .u64 tm2, .int .u64 ix1, (.sl (h.length + 1) 0 (1 + n) (1 + n)), .int .i64 0]⟩, ⟨.row 5 1, Go.Abs.bytes (1 :: T.take n)⟩, ⟨.row 57 5, [.int .i64 1, .int .u64 tm2, .int .u64 ix1, (.sl (h.length + 1) 0 (1 + n) (1 + n)), .int .i64 0]⟩], h.length + 2, 1, 0, tm2, ix1, (.sl (h.length + 1) 0 (1 + n) (1 + n)), 1 :: T.take n, callX rfl (by rfl : F 90 = some M.a90) (fun R RO RD RT E => ?_), by simp, Mod.app _ _ _, fun j hj => (show h.length ≤ j from by have : j = h.length + 1 := (by simpa [blk, eq_comm] using hj); omega), Own.row (e := 5) (.inr ⟨h.length + 1, by simp [ltn]; omega, by simp, by simp [bytes_length]⟩), by simp [ltn]; omega, by omega, by omega, by simp [rightE, kindE, okt, oki, ltn]; omega⟩
    have lo := E.run (loop_run lo)
    simp [M.a90, E.eqs, lo, trim, pureT, pureV, pureS]
  · have r1 : (term : Int).tmod 200 = ((term % 200 : Nat) : Int) := by rw [Int.tmod_eq_emod_of_nonneg (by omega)]; omega
    have ht2 : term % 200 < 200 := by omega
    generalize term % 200 = t2 at *
    have v0 := Int.emod_nonneg (t2 : Int) (b := 31) (by omega)
    have v1 := Int.emod_lt_of_pos (t2 : Int) (b := 31) (by omega)
    generalize (t2 : Int) % 31 = v at *
    have r2 : IntKind.u64.wrap (t2 : Int) = t2 := wu64 (by omega) (by omega)
    have r3 : IntKind.i64.wrap (t2 : Int) = t2 := wi64 (by omega) (by omega)
    have r4 : IntKind.i64.wrap (1 + v) = 1 + v := wi64 (by omega) (by omega)
    have r5 : IntKind.i64.wrap (2 * (1 + v)) = 2 * (1 + v) := wi64 (by omega) (by omega)
    have lo : loopE F O (.loop [0, 1, 2, 3, 9, 10] M.b90_0) [(0, [.sc (.int .u64 ix)]), (1, [.sc (.int .u64 tm)]), (2, [.sc (.sl b 0 1 5)]), (3, [.sc (.int .i64 1)]), (9, [.sc .nils]), (10, [.sc (.int .i64 0)])] h = some (.exit 0, [(0, [.sc (.int .u64 ix1)]), (1, [.sc (.int .u64 tm1)]), (2, [.sc (.sl b 0 1 5)]), (3, [.sc (.int .i64 1)]), (9, [.sc (.sl (h.length + 1) 0 1 5)]), (10, [.sc (.int .i64 1)]), (20, [.sc (.bool false)])], h ++ [⟨.var, [.int .i64 2, .int .u64 tm2, .int .u64 ix1, .nils, .int .i64 (2 * (1 + v))]⟩, ⟨.row 57 5, [.int .i64 2, .int .u64 tm2, .int .u64 ix1, .nils, .int .i64 (2 * (1 + v))]⟩]) := by
      refine stepM (e1 := [(0, [.sc (.int .u64 ix1)]), (1, [.sc (.int .u64 tm1)]), (2, [.sc (.sl b 0 1 5)]), (3, [.sc (.int .i64 1)]), (9, [.sc (.sl (h.length + 1) 0 1 5)]), (10, [.sc (.int .i64 1)])]) (h1 := h ++ [⟨.var, [.int .i64 2, .int .u64 tm2, .int .u64 ix1, .nils, .int .i64 (2 * (1 + v))]⟩, ⟨.row 57 5, [.int .i64 2, .int .u64 tm2, .int .u64 ix1, .nils, .int .i64 (2 * (1 + v))]⟩]) (fun R RO RD RT E => ?_) (exitM fun R RO RD RT E => ?_)
      · simp [M.b90_0, E.eqs, lny, lnyt, ixsA, fldA, freshB, loadA, storeA, hB, bAt, pk1, pk2, hd, w1, w2, w3, wm, app_nil1, show IntKind.i64.wrap 1 = 1 from rfl, pk3, r1, r2, r3, r4, r5]
      · simp [M.b90_0, E.eqs, lny, lnyt, freshB, bAt]
    refine ⟨h ++ [⟨.var, [.int .i64 2, .int .u64 tm2, .int .u64 ix1, .nils, .int .i64 (2 * (1 + v))]⟩, ⟨.row 57 5, [.int .i64 2, .int .u64 tm2, .int .u64 ix1, .nils, .int .i64 (2 * (1 + v))]⟩], h.length + 1, 2, (2 * (1 + v)), tm2, ix1, .nils, [], callX rfl (by rfl : F 90 = some M.a90) (fun R RO RD RT E => ?_), by simp, Mod.app _ _ _, fun j hj => hj.elim, (own_nils _).row, by simp, by omega, by omega, by simp [rightE, kindE, setB, okt, oki]; omega⟩
    have lo := E.run (loop_run lo)
    simp [M.a90, E.eqs, lo, trim, pureT, pureV, pureS]
end
end Go.Proofs.Ytoghoddofokekaa
end

section
set_option linter.unusedVariables false
set_option linter.unusedSimpArgs false
set_option maxRecDepth 100000
namespace Go.Proofs.Ytoghoddofokekaa
open Go.Abs

theorem row_trimE {h h' : Heap} {y k t i c : SV} {n sz : Nat} {cs : List SV} (a : Row h' y sz n cs) : Row (Go.Abs.trim h h' [.agg [k, t, i, y, c]]) y sz n cs := by
  unfold Go.Abs.trim
  split
  · rename_i hc
    simp only [Bool.and_eq_true] at hc
    rcases a with h1 | ⟨b, o, c, B, rfl, _⟩
    · exact .inl h1
    · simp [pureT, pureV, pureS] at hc
  · exact a

section
variable {h : Heap} {x : SV} {T : List UInt8} {kind conf : Int} {term index : Nat}

set_option maxHeartbeats 1000000 in
theorem spec38 (hx : Row h x 1 T.length (Go.Abs.bytes T)) (hl : T.length ≤ 140737488353280) (ht : term < 18446744073709551616) (hi : index < 18446744073709551616)
    (k1 : -9223372036854775808 ≤ kind) (k2 : kind < 9223372036854775808) (c1 : -9223372036854775808 ≤ conf) (c2 : conf < 9223372036854775808) (is : Bool) :
    ∃ (h' : Heap) (kind' conf' : Int) (term' index' : Nat) (x' : SV) (T' : List UInt8), call 38 [[.agg (eC kind term index x conf)], [.sc (.bool is)]] h = some ([.agg (eC kind' term' index' x' conf')], h') ∧ Mod (fun _ => False) h h' ∧
      Row h' x' 1 T'.length (Go.Abs.bytes T') ∧ T'.length ≤ T.length + 31 ∧ (∀ j, blk x' j → blk x j ∨ h.length ≤ j) ∧ term' < 18446744073709551616 ∧ index' < 18446744073709551616 ∧ (is = true → rightE kind' term' index' T'.length conf' = true) := by
  obtain ⟨ha, hha⟩ : ∃ ha : Heap, ha = h ++ [⟨.var, [.int .i64 kind, .int .u64 term, .int .u64 index, x, .int .i64 conf]⟩] := ⟨_, rfl⟩
  obtain ⟨hb, hhb⟩ : ∃ hb : Heap, hb = ha ++ [⟨.var, [.int .i64 0, .int .u64 0, .int .u64 0, .nils, .int .i64 0]⟩] := ⟨_, rfl⟩
  have ma : Mod (fun _ => False) h ha := by rw [hha]; exact Mod.app _ _ _
  have mb : Mod (fun _ => False) ha hb := by rw [hhb]; exact Mod.app _ _ _
  have mab : Mod (fun _ => False) h hb := ma.trans mb fun _ _ h => h
  have la : ha.length = h.length + 1 := by rw [hha]; simp
  have ba : hb[h.length]? = some ⟨.var, [.int .i64 kind, .int .u64 term, .int .u64 index, x, .int .i64 conf]⟩ := mb.get (by rw [hha]; simp) fun h => h
  have bb : hb[ha.length]? = some ⟨.var, [.int .i64 0, .int .u64 0, .int .u64 0, .nils, .int .i64 0]⟩ := by rw [hhb]; simp
  cases is
  · have m1 : Mod (fun _ => False) h (hb.set ha.length ⟨.var, eC kind term index x conf⟩) := mab.trans (Mod.set _ _ rfl : Mod (fun j => j = ha.length) hb _) fun j hj e => by omega
    have bc : ∀ B : Blk, (hb.set ha.length B)[ha.length]? = some B := fun B => get_set_same bb
    refine ⟨_, kind, conf, term, index, x, T, callX (hh := trim h (hb.set ha.length ⟨.var, eC kind term index x conf⟩) [.agg (eC kind term index x conf)]) rfl (by rfl : F 38 = some M.a38) (fun R RO RD RT E => ?_), trim_mod' m1, row_trimE (hx.mod m1 fun _ _ h => h), by omega, fun j hj => .inl hj, ht, hi, fun h => absurd h (by simp)⟩
    unfold eC
    simp [M.a38, E.eqs, ← hha, ← hhb, freshB, loadA, storeA, ba, bb, bc]
  · obtain ⟨hc, hhc⟩ : ∃ hc : Heap, hc = hb ++ [⟨.row 57 5, eC kind term index x conf⟩] := ⟨_, rfl⟩
    have mc : Mod (fun _ => False) hb hc := by rw [hhc]; exact Mod.app _ _ _
    have bcc : hc[hb.length]? = some ⟨.row 57 5, eC kind term index x conf⟩ := by rw [hhc]; simp
    obtain ⟨h', zb, kind', conf', term', index', x', T', q, hz, m, hn', hx', hl', ht', hi', hr⟩ := entries_one (ix := index % 1000) (tm := term % 1000) bcc ((hx.mod mab fun _ _ h => h).mod mc fun _ _ h => h) hl (by omega) (by omega) ht k1 k2 c1 c2
    have bd : h'[ha.length]? = some ⟨.var, [.int .i64 0, .int .u64 0, .int .u64 0, .nils, .int .i64 0]⟩ := m.get (mc.get bb fun h => h) fun h => h
    have m1 : Mod (fun _ => False) h (h'.set ha.length ⟨.var, eC kind' term' index' x' conf'⟩) := ((mab.trans mc fun _ _ h => h).trans m fun _ _ h => h).trans (Mod.set _ _ rfl : Mod (fun j => j = ha.length) h' _) fun j hj e => by omega
    have be : ∀ B : Blk, (h'.set ha.length B)[ha.length]? = some B := fun B => get_set_same bd
    have hx2 : Row (h'.set ha.length ⟨.var, eC kind' term' index' x' conf'⟩) x' 1 T'.length (Go.Abs.bytes T') := by
      refine hx'.mod (Mod.set _ _ rfl : Mod (fun j => j = ha.length) h' _) fun j hj e => ?_
      have := hn' j hj
      have := mc.1
      have := lt_of_get bb
      omega
    have r1 : (index : Int).tmod 1000 = ((index % 1000 : Nat) : Int) := by rw [Int.tmod_eq_emod_of_nonneg (by omega)]; omega
    have r2 : (term : Int).tmod 1000 = ((term % 1000 : Nat) : Int) := by rw [Int.tmod_eq_emod_of_nonneg (by omega)]; omega
    have r3 : IntKind.u64.wrap ((index % 1000 : Nat) : Int) = ((index % 1000 : Nat) : Int) := wu64 (by omega) (by omega)
    have r4 : IntKind.u64.wrap ((term % 1000 : Nat) : Int) = ((term % 1000 : Nat) : Int) := wu64 (by omega) (by omega)
    generalize index % 1000 = ix at *
    generalize term % 1000 = tm at *
    refine ⟨_, kind', conf', term', index', x', T', callX (hh := trim h (h'.set ha.length ⟨.var, eC kind' term' index' x' conf'⟩) [.agg (eC kind' term' index' x' conf')]) rfl (by rfl : F 38 = some M.a38) (fun R RO RD RT E => ?_), trim_mod' m1, row_trimE hx2, by omega, fun j hj => .inr (Nat.le_trans (Nat.le_trans mab.1 mc.1) (hn' j hj)), ht', hi', fun _ => hr⟩
    unfold eC at *
    simp [M.a38, E.eqs, ← hha, ← hhb, ← hhc, fldA, ixsA, freshB, loadA, storeA, ba, bb, r1, r2, r3, r4, q, hz, bd, be]
end

theorem in_entry {H : Type} {k : Nat} {tv : TV} {d : DataW H} {h : Heap} (hi : In1 Try.prog h (k + 4) 57 tv d) : ∃ (kind conf : Int) (term index : Nat) (x : SV) (T : List UInt8), tv = [.agg (eC kind term index x conf)] ∧ Row h x 1 T.length (Go.Abs.bytes T) ∧ T.length ≤ Rows.uptoBulk d ∧
    term < 18446744073709551616 ∧ index < 18446744073709551616 ∧ -9223372036854775808 ≤ kind ∧ kind < 9223372036854775808 ∧ -9223372036854775808 ≤ conf ∧ conf < 9223372036854775808 := by
  obtain ⟨xs, hv, rfl⟩ := hi
  obtain ⟨parts, rfl, hl, hp, hf⟩ := View.fields (L := [(3, 0, 1), (24, 1, 1), (24, 2, 1), (28, 3, 1), (3, 4, 1)]) (n := 5) (by kernel_rfl) (by kernel_rfl) hv
  have ha : Go.Abs.isAgg Try.prog 57 = true := by kernel_rfl
  match xs, hl, parts, hp with
  | [x0, x1, x2, x3, x4], _, [p0, p1, p2, p3, p4], _ =>
    obtain ⟨a, q1, q2, _⟩ := View.int (by kernel_rfl : Try.prog.underlying 3 = some (.int .i64)) (hf 0 _ _ rfl rfl)
    obtain ⟨b, q3, q4, _⟩ := View.int (by kernel_rfl : Try.prog.underlying 24 = some (.int .u64)) (hf 1 _ _ rfl rfl)
    obtain ⟨c, q5, q6, _⟩ := View.int (by kernel_rfl : Try.prog.underlying 24 = some (.int .u64)) (hf 2 _ _ rfl rfl)
    have f3 : View Try.prog h (k + 1 + 2) 28 [x3] p3 := hf 3 _ _ rfl rfl
    obtain ⟨T, hT, hbulk⟩ := view_bytes f3
    obtain ⟨e, q9, q10, _⟩ := View.int (by kernel_rfl : Try.prog.underlying 3 = some (.int .i64)) (hf 4 _ _ rfl rfl)
    simp at q1 q3 q5 q9
    subst q1 q3 q5 q9
    have q4 := wf_u64 q4
    have q6 := wf_u64 q6
    have q2 := wf_i64 q2
    have q10 := wf_i64 q10
    refine ⟨a, e, b.toNat, c.toNat, x3, T, ?_, hT, ?_, by omega, by omega, q2.1, q2.2, q10.1, q10.2⟩
    · rw [ha]
      unfold eC
      rw [Int.toNat_of_nonneg q4.1, Int.toNat_of_nonneg q6.1]
      rfl
    · rw [bulk_agg]
      have := bulk_mem (d := p3) (ds := [p0, p1, p2, p3, p4]) (by simp)
      omega
end Go.Proofs.Ytoghoddofokekaa
end

