/- Chapter 5: amounts and replies, laid. -/
import Derived.Test.YtoghoddofokekaaDoorS6
import Derived.Test.YtoghoddofokekaaDoorC1
set_option linter.unusedVariables false
set_option linter.unusedSimpArgs false
set_option maxRecDepth 100000
namespace Go.Proofs.YtoghoddofokekaaDoor
open Go.Abs

theorem wr_other {h h' : Heap} {S : Nat → Prop} {i : Nat} {w : List UInt8} (wr : Wr h i w) (m : Mod S h h') (hS : ∀ j, wset h i j → ¬ S j) : Wr h' i w ∧ ∀ j, wset h' i j → wset h i j := by
  obtain ⟨x, hx, ho, hd⟩ := wr
  have hx' := m.get hx (hS i (.inl rfl))
  refine ⟨⟨x, hx', ho.mod m fun j hj => hS j (.inr ⟨x, hx, hj⟩), hd⟩, fun j hj => ?_⟩
  rcases hj with rfl | ⟨y, hy, hb⟩
  · exact .inl rfl
  · rw [hx'] at hy
    injection hy with hy
    injection hy with _ hy
    injection hy with hy
    subst hy
    exact .inr ⟨x, hx, hb⟩

theorem WStep.app {h : Heap} {i : Nat} {l : List UInt8} (w : Wr h i l) (t : Heap) : WStep h i l (h ++ t) [] := by
  obtain ⟨a1, a2⟩ := wr_other w (Mod.app (fun _ => False) h t) fun _ _ h => h
  exact ⟨by simpa using a1, Mod.app _ _ _, fun j hj => .inl (a2 j hj)⟩
theorem Wr.app {h : Heap} {i : Nat} {l : List UInt8} (w : Wr h i l) (t : Heap) : Wr (h ++ t) i l := (wr_other w (Mod.app (fun _ => False) h t) fun _ _ h => h).1
theorem WStep.box {h h1 : Heap} {i : Nat} {l m : List UInt8} {B : Blk} (w : Wr h i l) (st : WStep (h ++ [B]) i l h1 m) : h1[h.length]? = some B :=
  st.mod.get (by simp) fun hs => by
    have := (wr_other w (Mod.app (fun _ => False) h [B]) fun _ _ h => h).2 _ hs
    have := w.wset_lt _ this
    omega
theorem WStep.before {h h1 : Heap} {i : Nat} {l m : List UInt8} {t : Heap} (w : Wr h i l) (st : WStep (h ++ t) i l h1 m) : WStep h i l h1 m := by
  have := (WStep.app w t).trans (h'' := h1) (m' := m) (by simpa using st)
  simpa using this

/-- a writer in memory newer than h0 -/
structure LI (h0 h : Heap) (i : Nat) (w : List UInt8) : Prop where
  wr : Wr h i w
  mod : Mod (fun _ => False) h0 h
  new : ∀ j, wset h i j → h0.length ≤ j
theorem LI.step {h0 h h' : Heap} {i : Nat} {w m : List UInt8} (a : LI h0 h i w) (s : WStep h i w h' m) : LI h0 h' i (w ++ m) :=
  ⟨s.wr, a.mod.trans s.mod fun j hj hs => absurd (a.new j hs) (by omega), fun j hj => by
    rcases s.new j hj with h1 | h1
    · exact a.new j h1
    · exact Nat.le_trans a.mod.1 h1⟩
theorem li_new (h : Heap) : LI h (h ++ [⟨.var, [.nils]⟩]) h.length [] := ⟨wr_new h, Mod.app _ _ _, fun j hj => by
  rcases hj with rfl | ⟨x, hx, hb⟩
  · exact Nat.le_refl _
  · simp at hx
    subst hx
    exact hb.elim⟩
theorem LI.box {h h1 : Heap} {i : Nat} {w : List UInt8} {B : Blk} (a : LI (h ++ [B]) h1 i w) : h1[h.length]? = some B := a.mod.get (by simp) fun h => h

theorem byte_of (s : Int) : IntKind.u8.wrap s = ((UInt8.ofNat (s % 256).toNat).toNat : Int) := by rw [wu8', UInt8.toNat_ofNat']; omega
theorem numB_le {n : Nat} (h : n < 18446744073709551616) : (numB n).length ≤ 10 := numB_length 10 n (Nat.lt_of_lt_of_le h (by decide)) (by omega)
theorem numB_ne (n : Nat) : numB n ≠ [] := by
  rw [numB]
  split <;> simp

/-- a decimal's bytes, and a reply's -/
def decB (hi : Int) (lo : Nat) (s : Int) : List UInt8 := UInt8.ofNat (s % 256).toNat :: (numB (zz hi) ++ numB lo)
theorem decB_le {hi : Int} {lo : Nat} {s : Int} (h1 : -9223372036854775808 ≤ hi) (h2 : hi < 9223372036854775808) (hlo : lo < 18446744073709551616) : (decB hi lo s).length ≤ 21 := by
  have := numB_le (zz_lt h1 h2)
  have := numB_le hlo
  simp [decB]
  omega

theorem spec43 {h : Heap} {i : Nat} {l : List UInt8} {hi s : Int} {lo : Nat} (h1 : -9223372036854775808 ≤ hi) (h2 : hi < 9223372036854775808) (hlo : lo < 18446744073709551616) (w : Wr h i l) (hl : l.length ≤ 2 ^ 38) :
    ∃ h', call 43 [[.sc (.ptr i 0 1)], [.agg [.int .i64 hi, .int .u64 lo, .int .i64 s]]] h = some ([], h') ∧ WStep h i l h' (decB hi lo s) := by
  have n1 := numB_le (zz_lt h1 h2)
  obtain ⟨b, hb⟩ : ∃ b, b = UInt8.ofNat (s % 256).toNat := ⟨_, rfl⟩
  have hw := byte_of s
  rw [← hb] at hw
  obtain ⟨g1, e1, st1⟩ := spec26 b (w.app [⟨.var, [.int .i64 hi, .int .u64 lo, .int .i64 s]⟩]) (by omega)
  obtain ⟨g2, e2, st2⟩ := spec56 h1 h2 st1.wr (by simp; omega)
  obtain ⟨g3, e3, st3⟩ := spec42 hlo st2.wr (by simp; omega)
  have b1 := WStep.box w st1
  have b2 := WStep.box w (st1.trans st2)
  have st := (WStep.before w (st1.trans (st2.trans (by simpa using st3)))).trim w []
  refine ⟨_, callX (hh := trim h g3 []) rfl (by rfl : F 43 = some M.a43) (fun R RO RD RT E => ?_), by unfold decB; rw [← hb]; simpa using st⟩
  simp [M.a43, E.eqs, fldA, freshB, loadA, hw, e1, b1, e2, b2, e3]

theorem spec40 (h : Heap) (hi lo s : SV) (n : Int) : call 40 [[.agg [hi, lo, .int .i64 n]]] h = some ([.sc (.bool (decide (0 ≤ n) && decide (n ≤ 18)))], h) := by
  have s1 : ∀ h, call 55 [[.sc (.int .i64 n)]] h = some ([.sc (.bool (decide (0 ≤ n) && decide (n ≤ 18)))], h) := fun h => by
    refine callX rfl (by rfl : F 55 = some M.a55) (fun R RO RD RT E => ?_)
    by_cases c1 : 0 ≤ n
    · simp [M.a55, E.eqs, c1]
    · simp [M.a55, E.eqs, c1]
  refine callX rfl (by rfl : F 40 = some M.a40) (fun R RO RD RT E => ?_)
  simp [M.a40, E.eqs, s1, fldA, freshB, loadA, trim_pure, pureT, pureV, pureS]

def repOk (code s : Int) : Prop := (0 ≤ code ∧ code ≤ 99) ∧ 0 ≤ s ∧ s ≤ 18
instance (code s : Int) : Decidable (repOk code s) := inferInstanceAs (Decidable (_ ∧ _))
def repB (code : Int) (v : Nat) (hi : Int) (lo : Nat) (s : Int) : List UInt8 := UInt8.ofNat (code % 256).toNat :: (numB v ++ decB hi lo s)
/-- what is laid, or nothing -/
def repL (code : Int) (v : Nat) (hi : Int) (lo : Nat) (s : Int) : List UInt8 := if repOk code s then repB code v hi lo s else []
def repE (code s : Int) : Int := if repOk code s then 0 else 1

theorem Fresh.trim2 {h h' : Heap} {y : SV} {l : List UInt8} (a : Fresh h h' y l) (x : SV) : Fresh h (Go.Abs.trim h h' [.sc y, .sc x]) y l := by
  refine ⟨?_, trim_mod' a.mod, a.new⟩
  unfold Go.Abs.trim
  split
  · rename_i hc
    simp only [Bool.and_eq_true] at hc
    rcases a.own with h1 | ⟨b, rfl, _⟩
    · exact .inl h1
    · simp [pureT, pureV, pureS] at hc
  · exact a.own

/-- a literal byte in front of a row that is not empty -/
theorem imm_app {h : Heap} {y : SV} {l : List UInt8} (hy : Row h y 1 l.length (Go.Abs.bytes l)) (hne : l ≠ []) (hl : l.length < lim) (b : UInt8) :
    appA h 5 1 1 (.imm 1 [.int .u8 b.toNat]) (.sc y) = some ([.sc (.sl h.length 0 (b :: l).length (b :: l).length)], h ++ [⟨.row 5 1, Go.Abs.bytes (b :: l)⟩]) ∧
    Fresh h (h ++ [⟨.row 5 1, Go.Abs.bytes (b :: l)⟩]) (.sl h.length 0 (b :: l).length (b :: l).length) (b :: l) := by
  refine ⟨?_, copy_fresh h (b :: l)⟩
  have h1 := srcOf_row hy
  have h2 : l.length ≠ 0 := by simpa using hne
  have h3 : 1 + l.length ≤ lim := by omega
  simp only [appA, h1]
  rw [if_pos ⟨h2, rfl, by omega⟩]
  simp [Nat.add_comm, Go.Abs.bytes]

theorem spec30 (h : Heap) {hi s : Int} {lo : Nat} (h1 : -9223372036854775808 ≤ hi) (h2 : hi < 9223372036854775808) (hlo : lo < 18446744073709551616) :
    ∃ h' y, call 30 [[.agg [.int .i64 hi, .int .u64 lo, .int .i64 s]]] h = some ([.sc y], h') ∧ Fresh h h' y (decB hi lo s) := by
  obtain ⟨hb, hhb⟩ : ∃ hb : Heap, hb = h ++ [⟨.var, [.int .i64 hi, .int .u64 lo, .int .i64 s]⟩] := ⟨_, rfl⟩
  have bb : hb[h.length]? = some ⟨.var, [.int .i64 hi, .int .u64 lo, .int .i64 s]⟩ := by rw [hhb]; simp
  have mb : Mod (fun _ => False) h hb := by rw [hhb]; exact Mod.app _ _ _
  obtain ⟨b, hbd⟩ : ∃ b, b = UInt8.ofNat (s % 256).toNat := ⟨_, rfl⟩
  have hw := byte_of s
  rw [← hbd] at hw
  have n1 := numB_le (zz_lt h1 h2)
  have n2 := numB_le hlo
  obtain ⟨g1, y1, e1, f1⟩ := spec45 hb h1 h2
  obtain ⟨a1, f2⟩ := imm_app f1.row (numB_ne _) (by simp [lim]; omega) b
  have ff : Fresh hb _ _ (b :: numB (zz hi)) := f2.after f1.mod
  have x1 := f1.mod.get bb fun h => h
  have x2 := ff.mod.get bb fun h => h
  generalize g1 ++ [⟨.row 5 1, Go.Abs.bytes (b :: numB (zz hi))⟩] = g2 at *
  generalize SV.sl g1.length 0 (b :: numB (zz hi)).length (b :: numB (zz hi)).length = y2 at *
  obtain ⟨g3, y3, e3, f3⟩ := spec29 g2 hlo
  obtain ⟨a2, so⟩ := own_app (ff.own.mod f3.mod fun _ _ h => h) (srcOf_row f3.row) (by simp [lim]; omega)
  generalize appV g3 y2 1 (numB lo).length = y4 at *
  generalize appH g3 y2 5 1 (numB lo).length (Go.Abs.bytes (numB lo)) = g4 at *
  have x3 := f3.mod.get x2 fun h => h
  have fr : Fresh h g4 y4 (decB hi lo s) := by
    have q1 : Fresh hb g3 y2 (b :: numB (zz hi)) := ⟨ff.own.mod f3.mod fun _ _ h => h, ff.mod.trans f3.mod fun _ _ h => h, ff.new⟩
    have q2 := (q1.app so).after mb
    unfold decB
    rw [← hbd]
    simpa using q2
  refine ⟨_, y4, callX (hh := trim h g4 [.sc y4]) rfl (by rfl : F 30 = some M.a30) (fun R RO RD RT E => ?_), fr.trim⟩
  simp [M.a30, E.eqs, ← hhb]
  simp [bb, fldA, freshB, loadA, hw, e1, a1, x1, x2, x3, e3, a2]

end Go.Proofs.YtoghoddofokekaaDoor
