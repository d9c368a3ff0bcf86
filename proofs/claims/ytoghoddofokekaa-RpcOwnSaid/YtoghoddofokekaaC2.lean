/- Chapter 5: amounts and replies, laid. -/
import Derived.Test.YtoghoddofokekaaS6
import Derived.Test.YtoghoddofokekaaC1
set_option linter.unusedVariables false
set_option linter.unusedSimpArgs false
set_option maxRecDepth 100000
namespace Go.Proofs.Ytoghoddofokekaa
open Go.Abs

theorem wr_other {h h' : Heap} {S : Nat → Prop} {i : Nat} {w : List UInt8} (wr : Wr h i w) (m : Mod S h h') (hS : ∀ j, wset h i j → ¬ S j) : Wr h' i w ∧ ∀ j, wset h' i j → wset h i j := by
  obtain ⟨x, hx, ho, hd⟩ := wr
  have hx' := m.get hx (hS i (.inl rfl))
  refine ⟨⟨x, hx', ho.mod m fun j hj => hS j (.inr ⟨x, hx, hj⟩), hd⟩, fun j hj => ?_⟩
  rcases hj with rfl | ⟨y, hy, hb⟩
  · exact .inl rfl
  · rw [hx'] at hy
    injection hy with hy
    injection hy with _ hy
    injection hy with hy
    subst hy
    exact .inr ⟨x, hx, hb⟩

theorem WStep.app {h : Heap} {i : Nat} {l : List UInt8} (w : Wr h i l) (t : Heap) : WStep h i l (h ++ t) [] := by
  obtain ⟨a1, a2⟩ := wr_other w (Mod.app (fun _ => False) h t) fun _ _ h => h
  exact ⟨by simpa using a1, Mod.app _ _ _, fun j hj => .inl (a2 j hj)⟩
theorem Wr.app {h : Heap} {i : Nat} {l : List UInt8} (w : Wr h i l) (t : Heap) : Wr (h ++ t) i l := (wr_other w (Mod.app (fun _ => False) h t) fun _ _ h => h).1
theorem WStep.box {h h1 : Heap} {i : Nat} {l m : List UInt8} {B : Blk} (w : Wr h i l) (st : WStep (h ++ [B]) i l h1 m) : h1[h.length]? = some B :=
  st.mod.get (by simp) fun hs => by
    have := (wr_other w (Mod.app (fun _ => False) h [B]) fun _ _ h => h).2 _ hs
    have := w.wset_lt _ this
    omega
theorem WStep.before {h h1 : Heap} {i : Nat} {l m : List UInt8} {t : Heap} (w : Wr h i l) (st : WStep (h ++ t) i l h1 m) : WStep h i l h1 m := by
  have := (WStep.app w t).trans (h'' := h1) (m' := m) (by simpa using st)
  simpa using this

/-- a writer in memory newer than h0 -/
structure LI (h0 h : Heap) (i : Nat) (w : List UInt8) : Prop where
  wr : Wr h i w
  mod : Mod (fun _ => False) h0 h
  new : ∀ j, wset h i j → h0.length ≤ j
theorem LI.step {h0 h h' : Heap} {i : Nat} {w m : List UInt8} (a : LI h0 h i w) (s : WStep h i w h' m) : LI h0 h' i (w ++ m) :=
  ⟨s.wr, a.mod.trans s.mod fun j hj hs => absurd (a.new j hs) (by omega), fun j hj => by
    rcases s.new j hj with h1 | h1
    · exact a.new j h1
    · exact Nat.le_trans a.mod.1 h1⟩
theorem li_new (h : Heap) : LI h (h ++ [⟨.var, [.nils]⟩]) h.length [] := ⟨wr_new h, Mod.app _ _ _, fun j hj => by
  rcases hj with rfl | ⟨x, hx, hb⟩
  · exact Nat.le_refl _
  · simp at hx
    subst hx
    exact hb.elim⟩
theorem LI.box {h h1 : Heap} {i : Nat} {w : List UInt8} {B : Blk} (a : LI (h ++ [B]) h1 i w) : h1[h.length]? = some B := a.mod.get (by simp) fun h => h

theorem byte_of (s : Int) : IntKind.u8.wrap s = ((UInt8.ofNat (s % 256).toNat).toNat : Int) := by rw [wu8', UInt8.toNat_ofNat']; omega
theorem numB_le {n : Nat} (h : n < 18446744073709551616) : (numB n).length ≤ 10 := numB_length 10 n (Nat.lt_of_lt_of_le h (by decide)) (by omega)
theorem numB_ne (n : Nat) : numB n ≠ [] := by
  rw [numB]
  split <;> simp

/-- a decimal's bytes, and a reply's -/
def decB (hi : Int) (lo : Nat) (s : Int) : List UInt8 := UInt8.ofNat (s % 256).toNat :: (numB (zz hi) ++ numB lo)
theorem decB_le {hi : Int} {lo : Nat} {s : Int} (h1 : -9223372036854775808 ≤ hi) (h2 : hi < 9223372036854775808) (hlo : lo < 18446744073709551616) : (decB hi lo s).length ≤ 21 := by
  have := numB_le (zz_lt h1 h2)
  have := numB_le hlo
  simp [decB]
  omega

theorem spec71 {h : Heap} {i : Nat} {l : List UInt8} {hi s : Int} {lo : Nat} (h1 : -9223372036854775808 ≤ hi) (h2 : hi < 9223372036854775808) (hlo : lo < 18446744073709551616) (w : Wr h i l) (hl : l.length ≤ 2 ^ 38) :
    ∃ h', call 71 [[.sc (.ptr i 0 1)], [.agg [.int .i64 hi, .int .u64 lo, .int .i64 s]]] h = some ([], h') ∧ WStep h i l h' (decB hi lo s) := by
  have n1 := numB_le (zz_lt h1 h2)
  obtain ⟨b, hb⟩ : ∃ b, b = UInt8.ofNat (s % 256).toNat := ⟨_, rfl⟩
  have hw := byte_of s
  rw [← hb] at hw
  obtain ⟨g1, e1, st1⟩ := spec61 b (w.app [⟨.var, [.int .i64 hi, .int .u64 lo, .int .i64 s]⟩]) (by omega)
  obtain ⟨g2, e2, st2⟩ := spec107 h1 h2 st1.wr (by simp; omega)
  obtain ⟨g3, e3, st3⟩ := spec70 hlo st2.wr (by simp; omega)
  have b1 := WStep.box w st1
  have b2 := WStep.box w (st1.trans st2)
  have st := (WStep.before w (st1.trans (st2.trans (by simpa using st3)))).trim w []
  refine ⟨_, callX (hh := trim h g3 []) rfl (by rfl : F 71 = some M.a71) (fun R RO RD RT E => ?_), by unfold decB; rw [← hb]; simpa using st⟩
  simp [M.a71, E.eqs, fldA, freshB, loadA, hw, e1, b1, e2, b2, e3]

theorem spec69 (h : Heap) (hi lo s : SV) (n : Int) : call 69 [[.agg [hi, lo, .int .i64 n]]] h = some ([.sc (.bool (decide (0 ≤ n) && decide (n ≤ 18)))], h) := by
  have s1 : ∀ h, call 106 [[.sc (.int .i64 n)]] h = some ([.sc (.bool (decide (0 ≤ n) && decide (n ≤ 18)))], h) := fun h => by
    refine callX rfl (by rfl : F 106 = some M.a106) (fun R RO RD RT E => ?_)
    by_cases c1 : 0 ≤ n
    · simp [M.a106, E.eqs, c1]
    · simp [M.a106, E.eqs, c1]
  refine callX rfl (by rfl : F 69 = some M.a69) (fun R RO RD RT E => ?_)
  simp [M.a69, E.eqs, s1, fldA, freshB, loadA, trim_pure, pureT, pureV, pureS]

def repOk (code s : Int) : Prop := (0 ≤ code ∧ code ≤ 99) ∧ 0 ≤ s ∧ s ≤ 18
instance (code s : Int) : Decidable (repOk code s) := inferInstanceAs (Decidable (_ ∧ _))
def repB (code : Int) (v : Nat) (hi : Int) (lo : Nat) (s : Int) : List UInt8 := UInt8.ofNat (code % 256).toNat :: (numB v ++ decB hi lo s)
/-- what is laid, or nothing -/
def repL (code : Int) (v : Nat) (hi : Int) (lo : Nat) (s : Int) : List UInt8 := if repOk code s then repB code v hi lo s else []
def repE (code s : Int) : Int := if repOk code s then 0 else 1

theorem Fresh.trim2 {h h' : Heap} {y : SV} {l : List UInt8} (a : Fresh h h' y l) (x : SV) : Fresh h (Go.Abs.trim h h' [.sc y, .sc x]) y l := by
  refine ⟨?_, trim_mod' a.mod, a.new⟩
  unfold Go.Abs.trim
  split
  · rename_i hc
    simp only [Bool.and_eq_true] at hc
    rcases a.own with h1 | ⟨b, rfl, _⟩
    · exact .inl h1
    · simp [pureT, pureV, pureS] at hc
  · exact a.own

theorem spec30 (h : Heap) {code hi s : Int} {v lo : Nat} (h1 : -9223372036854775808 ≤ hi) (h2 : hi < 9223372036854775808) (hlo : lo < 18446744073709551616) (hv : v < 18446744073709551616) :
    ∃ h' y, call 30 [[.agg [.int .i64 code, .int .u64 v, .int .i64 hi, .int .u64 lo, .int .i64 s]]] h = some ([.sc y, .sc (.int .i64 (repE code s))], h') ∧ Fresh h h' y (repL code v hi lo s) := by
  have dr := fun h => spec69 h (.int .i64 hi) (.int .u64 lo) (.int .i64 s) s
  by_cases hc : repOk code s
  · have hE : repE code s = 0 := by unfold repE; rw [if_pos hc]
    have hL : repL code v hi lo s = repB code v hi lo s := by unfold repL; rw [if_pos hc]
    rw [hE, hL]
    obtain ⟨⟨c1, c2⟩, c3, c4⟩ := hc
    obtain ⟨hb, hhb⟩ : ∃ hb : Heap, hb = h ++ [⟨.var, [.int .i64 code, .int .u64 v, .int .i64 hi, .int .u64 lo, .int .i64 s]⟩] := ⟨_, rfl⟩
    have bb : hb[h.length]? = some ⟨.var, [.int .i64 code, .int .u64 v, .int .i64 hi, .int .u64 lo, .int .i64 s]⟩ := by rw [hhb]; simp
    have mb : Mod (fun _ => False) h hb := by rw [hhb]; exact Mod.app _ _ _
    have s0 := spec60 hb
    have l0 := li_new hb
    obtain ⟨b, hbd⟩ : ∃ b, b = UInt8.ofNat (code % 256).toNat := ⟨_, rfl⟩
    have hw := byte_of code
    rw [← hbd] at hw
    have n1 := numB_le hv
    obtain ⟨g1, e1, st1⟩ := spec61 b l0.wr (by simp)
    have l1 := l0.step st1
    obtain ⟨g2, e2, st2⟩ := spec70 hv l1.wr (by simp)
    have l2 := l1.step st2
    obtain ⟨g3, e3, st3⟩ := spec71 (s := s) h1 h2 hlo l2.wr (by simp; omega)
    have l3 := l2.step st3
    have dl := decB_le (s := s) h1 h2 hlo
    obtain ⟨g4, y, e4, f4⟩ := spec64 l3.wr (by simp; omega)
    have x0 : (hb ++ [⟨.var, [.nils]⟩])[h.length]? = some ⟨.var, [.int .i64 code, .int .u64 v, .int .i64 hi, .int .u64 lo, .int .i64 s]⟩ := l0.mod.get bb fun h => h
    have x1 := l1.mod.get bb fun h => h
    have x2 := l2.mod.get bb fun h => h
    have fr : Fresh h g4 y (repB code v hi lo s) := by
      have := f4.after (mb.trans l3.mod fun _ _ h => h)
      unfold repB
      rw [← hbd]
      simpa using this
    refine ⟨_, y, callX (hh := trim h g4 [.sc y, .sc (.int .i64 0)]) rfl (by rfl : F 30 = some M.a30) (fun R RO RD RT E => ?_), fr.trim2 _⟩
    have c1' : ¬ code < 0 := by omega
    have c2' : ¬ 99 < code := by omega
    simp [M.a30, E.eqs, ← hhb]
    simp [bb, fldA, freshB, loadA, c1', c2', c3, c4, dr, s0, x0, x1, x2, hw, e1, e2, e3, e4]
  · have hE : repE code s = 1 := by unfold repE; rw [if_neg hc]
    have hL : repL code v hi lo s = [] := by unfold repL; rw [if_neg hc]
    rw [hE, hL]
    refine ⟨_, .nils, callX (hh := h) rfl (by rfl : F 30 = some M.a30) (fun R RO RD RT E => ?_), Fresh.nils (Mod.refl _ _)⟩
    unfold repOk at hc
    by_cases c1 : code < 0
    · simp [M.a30, E.eqs, fldA, freshB, loadA, c1, trim_pure, pureT, pureV, pureS]
    · by_cases c2 : 99 < code
      · simp [M.a30, E.eqs, fldA, freshB, loadA, c1, c2, trim_pure, pureT, pureV, pureS]
      · have c3 : (decide (0 ≤ s) && decide (s ≤ 18)) = false := by simp; omega
        rw [c3] at dr
        simp [M.a30, E.eqs, fldA, freshB, loadA, c1, c2, dr, trim_pure, pureT, pureV, pureS]

/-- a literal byte in front of a row that is not empty -/
theorem imm_app {h : Heap} {y : SV} {l : List UInt8} (hy : Row h y 1 l.length (Go.Abs.bytes l)) (hne : l ≠ []) (hl : l.length < lim) (b : UInt8) :
    appA h 5 1 1 (.imm 1 [.int .u8 b.toNat]) (.sc y) = some ([.sc (.sl h.length 0 (b :: l).length (b :: l).length)], h ++ [⟨.row 5 1, Go.Abs.bytes (b :: l)⟩]) ∧
    Fresh h (h ++ [⟨.row 5 1, Go.Abs.bytes (b :: l)⟩]) (.sl h.length 0 (b :: l).length (b :: l).length) (b :: l) := by
  refine ⟨?_, copy_fresh h (b :: l)⟩
  have h1 := srcOf_row hy
  have h2 : l.length ≠ 0 := by simpa using hne
  have h3 : 1 + l.length ≤ lim := by omega
  simp only [appA, h1]
  rw [if_pos ⟨h2, rfl, by omega⟩]
  simp [Nat.add_comm, Go.Abs.bytes]

theorem spec72 (h : Heap) {hi s : Int} {lo : Nat} (h1 : -9223372036854775808 ≤ hi) (h2 : hi < 9223372036854775808) (hlo : lo < 18446744073709551616) :
    ∃ h' y, call 72 [[.agg [.int .i64 hi, .int .u64 lo, .int .i64 s]]] h = some ([.sc y], h') ∧ Fresh h h' y (decB hi lo s) := by
  obtain ⟨hb, hhb⟩ : ∃ hb : Heap, hb = h ++ [⟨.var, [.int .i64 hi, .int .u64 lo, .int .i64 s]⟩] := ⟨_, rfl⟩
  have bb : hb[h.length]? = some ⟨.var, [.int .i64 hi, .int .u64 lo, .int .i64 s]⟩ := by rw [hhb]; simp
  have mb : Mod (fun _ => False) h hb := by rw [hhb]; exact Mod.app _ _ _
  obtain ⟨b, hbd⟩ : ∃ b, b = UInt8.ofNat (s % 256).toNat := ⟨_, rfl⟩
  have hw := byte_of s
  rw [← hbd] at hw
  have n1 := numB_le (zz_lt h1 h2)
  have n2 := numB_le hlo
  obtain ⟨g1, y1, e1, f1⟩ := spec108 hb h1 h2
  obtain ⟨a1, f2⟩ := imm_app f1.row (numB_ne _) (by simp [lim]; omega) b
  have ff : Fresh hb _ _ (b :: numB (zz hi)) := f2.after f1.mod
  have x1 := f1.mod.get bb fun h => h
  have x2 := ff.mod.get bb fun h => h
  generalize g1 ++ [⟨.row 5 1, Go.Abs.bytes (b :: numB (zz hi))⟩] = g2 at *
  generalize SV.sl g1.length 0 (b :: numB (zz hi)).length (b :: numB (zz hi)).length = y2 at *
  obtain ⟨g3, y3, e3, f3⟩ := spec65 g2 hlo
  obtain ⟨a2, so⟩ := own_app (ff.own.mod f3.mod fun _ _ h => h) (srcOf_row f3.row) (by simp [lim]; omega)
  generalize appV g3 y2 1 (numB lo).length = y4 at *
  generalize appH g3 y2 5 1 (numB lo).length (Go.Abs.bytes (numB lo)) = g4 at *
  have x3 := f3.mod.get x2 fun h => h
  have fr : Fresh h g4 y4 (decB hi lo s) := by
    have q1 : Fresh hb g3 y2 (b :: numB (zz hi)) := ⟨ff.own.mod f3.mod fun _ _ h => h, ff.mod.trans f3.mod fun _ _ h => h, ff.new⟩
    have q2 := (q1.app so).after mb
    unfold decB
    rw [← hbd]
    simpa using q2
  refine ⟨_, y4, callX (hh := trim h g4 [.sc y4]) rfl (by rfl : F 72 = some M.a72) (fun R RO RD RT E => ?_), fr.trim⟩
  simp [M.a72, E.eqs, ← hhb]
  simp [bb, fldA, freshB, loadA, hw, e1, a1, x1, x2, x3, e3, a2]

set_option maxHeartbeats 1000000 in
theorem spec31 (h : Heap) {code hi s : Int} {v lo : Nat} (h1 : -9223372036854775808 ≤ hi) (h2 : hi < 9223372036854775808) (hlo : lo < 18446744073709551616) (hv : v < 18446744073709551616) :
    ∃ h' y, call 31 [[.agg [.int .i64 code, .int .u64 v, .int .i64 hi, .int .u64 lo, .int .i64 s]]] h = some ([.sc y, .sc (.int .i64 (repE code s))], h') ∧ Fresh h h' y (repL code v hi lo s) := by
  by_cases hc : repOk code s
  · have hE : repE code s = 0 := by unfold repE; rw [if_pos hc]
    have hL : repL code v hi lo s = repB code v hi lo s := by unfold repL; rw [if_pos hc]
    rw [hE, hL]
    obtain ⟨⟨c1, c2⟩, c3, c4⟩ := hc
    obtain ⟨hb, hhb⟩ : ∃ hb : Heap, hb = h ++ [⟨.var, [.int .i64 code, .int .u64 v, .int .i64 hi, .int .u64 lo, .int .i64 s]⟩] := ⟨_, rfl⟩
    have bb : hb[h.length]? = some ⟨.var, [.int .i64 code, .int .u64 v, .int .i64 hi, .int .u64 lo, .int .i64 s]⟩ := by rw [hhb]; simp
    have mb : Mod (fun _ => False) h hb := by rw [hhb]; exact Mod.app _ _ _
    obtain ⟨b, hbd⟩ : ∃ b, b = UInt8.ofNat (code % 256).toNat := ⟨_, rfl⟩
    have hw := byte_of code
    rw [← hbd] at hw
    have n1 := numB_le hv
    have dl := decB_le (s := s) h1 h2 hlo
    obtain ⟨g1, y1, e1, f1⟩ := spec65 hb hv
    obtain ⟨a1, f2⟩ := imm_app f1.row (numB_ne _) (by simp [lim]; omega) b
    have ff : Fresh hb _ _ (b :: numB v) := f2.after f1.mod
    have x1 := f1.mod.get bb fun h => h
    have x2 := ff.mod.get bb fun h => h
    generalize g1 ++ [⟨.row 5 1, Go.Abs.bytes (b :: numB v)⟩] = g2 at *
    generalize SV.sl g1.length 0 (b :: numB v).length (b :: numB v).length = y2 at *
    obtain ⟨g3, y3, e3, f3⟩ := spec72 g2 (s := s) h1 h2 hlo
    obtain ⟨a2, so⟩ := own_app (ff.own.mod f3.mod fun _ _ h => h) (srcOf_row f3.row) (by simp [lim]; omega)
    generalize appV g3 y2 1 (decB hi lo s).length = y4 at *
    generalize appH g3 y2 5 1 (decB hi lo s).length (Go.Abs.bytes (decB hi lo s)) = g4 at *
    have x3 := f3.mod.get x2 fun h => h
    have fr : Fresh h g4 y4 (repB code v hi lo s) := by
      have q1 : Fresh hb g3 y2 (b :: numB v) := ⟨ff.own.mod f3.mod fun _ _ h => h, ff.mod.trans f3.mod fun _ _ h => h, ff.new⟩
      have q2 := (q1.app so).after mb
      unfold repB
      rw [← hbd]
      simpa using q2
    refine ⟨_, y4, callX (hh := trim h g4 [.sc y4, .sc (.int .i64 0)]) rfl (by rfl : F 31 = some M.a31) (fun R RO RD RT E => ?_), fr.trim2 _⟩
    have c1' : ¬ code < 0 := by omega
    have c2' : ¬ 99 < code := by omega
    have c3' : ¬ s < 0 := by omega
    have c4' : ¬ 18 < s := by omega
    simp [M.a31, E.eqs, ← hhb, bb, fldA, freshB, loadA, c1', c2', c3', c4', hw, e1, a1, x1, x2, x3, e3, a2]
  · have hE : repE code s = 1 := by unfold repE; rw [if_neg hc]
    have hL : repL code v hi lo s = [] := by unfold repL; rw [if_neg hc]
    rw [hE, hL]
    refine ⟨_, .nils, callX (hh := h) rfl (by rfl : F 31 = some M.a31) (fun R RO RD RT E => ?_), Fresh.nils (Mod.refl _ _)⟩
    unfold repOk at hc
    by_cases c1 : code < 0
    · simp [M.a31, E.eqs, fldA, freshB, loadA, c1, trim_pure, pureT, pureV, pureS]
    · by_cases c2 : 99 < code
      · simp [M.a31, E.eqs, fldA, freshB, loadA, c1, c2, trim_pure, pureT, pureV, pureS]
      · by_cases c3 : s < 0
        · simp [M.a31, E.eqs, fldA, freshB, loadA, c1, c2, c3, trim_pure, pureT, pureV, pureS]
        · have c4 : 18 < s := by omega
          simp [M.a31, E.eqs, fldA, freshB, loadA, c1, c2, c3, c4, trim_pure, pureT, pureV, pureS]
end Go.Proofs.Ytoghoddofokekaa
