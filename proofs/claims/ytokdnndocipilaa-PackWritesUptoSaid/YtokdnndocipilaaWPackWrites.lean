/- PackWrites: the law's call says true, of any lays. -/
import Derived.Test.YtokdnndocipilaaSH
set_option linter.unusedVariables false
set_option linter.unusedSimpArgs false
set_option maxRecDepth 100000
namespace Go.Proofs.Ytokdnndocipilaa.lawPackWrites
open Go.Abs

theorem wr_other {h h' : Heap} {S : Nat → Prop} {i : Nat} {w : List UInt8} (wr : Wr h i w) (m : Mod S h h') (hS : ∀ j, wset h i j → ¬ S j) : Wr h' i w ∧ ∀ j, wset h' i j → wset h i j := by
  obtain ⟨x, hx, ho, hd⟩ := wr
  have hx' := m.get hx (hS i (.inl rfl))
  refine ⟨⟨x, hx', ho.mod m fun j hj => hS j (.inr ⟨x, hx, hj⟩), hd⟩, fun j hj => ?_⟩
  rcases hj with rfl | ⟨y, hy, hb⟩
  · exact .inl rfl
  · rw [hx'] at hy
    injection hy with hy
    injection hy with _ hy
    injection hy with hy
    subst hy
    exact .inr ⟨x, hx, hb⟩

/-- a writer and a row of one's own, in memory newer than h0 -/
structure WI (h0 h : Heap) (i : Nat) (x : SV) (w v : List UInt8) : Prop where
  li : LI h0 h i w
  own : Own h x 5 1 v.length (Go.Abs.bytes v)
  new : ∀ j, blk x j → h0.length ≤ j
  dis : ∀ j, blk x j → ¬ wset h i j

section
variable {h0 h h' : Heap} {i : Nat} {x x' : SV} {w v m : List UInt8}

theorem WI.wstep (s : WI h0 h i x w v) (st : WStep h i w h' m) : WI h0 h' i x (w ++ m) v :=
  ⟨s.li.step st, s.own.mod st.mod s.dis, s.new, fun j hj hs => by
    rcases st.new j hs with h1 | h1
    · exact s.dis j hj h1
    · have := s.own.lt j hj
      omega⟩
theorem WI.other {S : Nat → Prop} (s : WI h0 h i x w v) (m : Mod S h h') (hS : ∀ j, S j → h0.length ≤ j ∧ ¬ wset h i j ∧ ¬ blk x j) : WI h0 h' i x w v := by
  obtain ⟨a1, a2⟩ := wr_other s.li.wr m fun j hj hs => (hS j hs).2.1 hj
  exact ⟨⟨a1, s.li.mod.trans m fun j hj hs => absurd (hS j hs).1 (by omega), fun j hj => s.li.new j (a2 j hj)⟩, s.own.mod m fun j hj hs => (hS j hs).2.2 hj, s.new, fun j hj hs => s.dis j hj (a2 j hs)⟩
theorem WI.fresh (s : WI h0 h i x w v) (m : Mod (fun _ => False) h h') : WI h0 h' i x w v := s.other m fun _ h => h.elim
theorem WI.ostep (s : WI h0 h i x w v) (st : OStep h x v h' x' m) : WI h0 h' i x' w (v ++ m) := by
  obtain ⟨a1, a2⟩ := wr_other s.li.wr st.mod fun j hj hs => s.dis j hs hj
  refine ⟨⟨a1, s.li.mod.trans st.mod fun j hj hs => absurd (s.new j hs) (by omega), fun j hj => s.li.new j (a2 j hj)⟩, st.own, fun j hj => ?_, fun j hj hs => ?_⟩
  · rcases st.new j hj with h1 | h1
    · exact s.new j h1
    · exact Nat.le_trans s.li.mod.1 h1
  · have h2 := a2 j hs
    rcases st.new j hj with h1 | h1
    · exact s.dis j h1 h2
    · have := s.li.wr.wset_lt j h2
      omega
end

theorem fill2 {x : SV} {v0 v3 v4 v5 : TV} : ∀ (m k : Nat) (T : List UInt8) (h : Heap) (e : Env), k + m = T.length → T.length ≤ 2 ^ 40 → Own h x 5 1 T.length (Go.Abs.bytes T) →
    e.get 0 = v0 → e.get 3 = v3 → e.get 4 = v4 → e.get 5 = v5 → e.get 6 = [.sc x] → e.get 7 = [.sc (.int .i64 k)] →
    ∃ h', loopE F O (.loop [0, 3, 4, 5, 6, 7] M.b3_2) e h = some (.exit 3, [(0, v0), (3, v3), (4, v4), (5, v5), (6, [.sc x]), (7, [.sc (.int .i64 T.length)]), (60, [.sc (.bool false)])], h') ∧ Mod (blk x) h h'
  | 0, k, T, h, e, hk, hT, hx, e0, e3, e4, e5, e6, e7 => by
    have : k = T.length := by omega
    subst this
    have ln := lenA_row hx.row
    exact ⟨h, exitM fun R RO RD RT E => by simp [M.b3_2, E.eqs, e0, e3, e4, e5, e6, e7, ln], Mod.refl _ _⟩
  | m + 1, k, T, h, e, hk, hT, hx, e0, e3, e4, e5, e6, e7 => by
    have hlt : k < T.length := by omega
    have ln := lenA_row hx.row
    obtain ⟨g1, g2, g3, g4⟩ := fill_row hx hlt 238
    obtain ⟨h', r1, r2⟩ := fill2 (x := x) (v0 := v0) (v3 := v3) (v4 := v4) (v5 := v5) m (k + 1) (T.set k 238) (storeH h x k (.int .u8 ((238 : UInt8).toNat : Int))) [(0, v0), (3, v3), (4, v4), (5, v5), (6, [.sc x]), (7, [.sc (.int .i64 ((k + 1 : Nat) : Int))])]
      (by rw [List.length_set]; omega) (by rw [List.length_set]; exact hT) g3 rfl rfl rfl rfl rfl rfl
    rw [List.length_set] at r1
    refine ⟨h', stepM (fun R RO RD RT E => ?_) r1, g4.trans r2 fun _ _ h => h⟩
    have c1 : (k : Int) < T.length := by omega
    have w1 : IntKind.i64.wrap ((k : Int) + 1) = (k : Int) + 1 := wi64 (by omega) (by omega)
    have t1 : ((238 : UInt8).toNat : Int) = 238 := rfl
    rw [t1] at g2
    simp [M.b3_2, E.eqs, e0, e3, e4, e5, e6, e7, ln, c1, g1, g2, w1, t1]

theorem fill0 {x : SV} {v3 v4 v9 : TV} : ∀ (m k : Nat) (T : List UInt8) (h : Heap) (e : Env), k + m = T.length → T.length ≤ 2 ^ 40 → Own h x 5 1 T.length (Go.Abs.bytes T) →
    e.get 3 = v3 → e.get 4 = v4 → e.get 8 = [.sc x] → e.get 9 = v9 → e.get 10 = [.sc (.int .i64 k)] →
    ∃ h', loopE F O (.loop [3, 4, 8, 9, 10] M.b3_0) e h = some (.exit 5, [(3, v3), (4, v4), (8, [.sc x]), (9, v9), (10, [.sc (.int .i64 T.length)]), (127, [.sc (.bool false)])], h') ∧ Mod (blk x) h h'
  | 0, k, T, h, e, hk, hT, hx, e3, e4, e8, e9, e10 => by
    have : k = T.length := by omega
    subst this
    have ln := lenA_row hx.row
    exact ⟨h, exitM fun R RO RD RT E => by simp [M.b3_0, E.eqs, e3, e4, e8, e9, e10, ln], Mod.refl _ _⟩
  | m + 1, k, T, h, e, hk, hT, hx, e3, e4, e8, e9, e10 => by
    have hlt : k < T.length := by omega
    have ln := lenA_row hx.row
    obtain ⟨g1, g2, g3, g4⟩ := fill_row hx hlt 238
    obtain ⟨h', r1, r2⟩ := fill0 (x := x) (v3 := v3) (v4 := v4) (v9 := v9) m (k + 1) (T.set k 238) (storeH h x k (.int .u8 ((238 : UInt8).toNat : Int))) [(3, v3), (4, v4), (8, [.sc x]), (9, v9), (10, [.sc (.int .i64 ((k + 1 : Nat) : Int))])]
      (by rw [List.length_set]; omega) (by rw [List.length_set]; exact hT) g3 rfl rfl rfl rfl rfl
    rw [List.length_set] at r1
    refine ⟨h', stepM (fun R RO RD RT E => ?_) r1, g4.trans r2 fun _ _ h => h⟩
    have c1 : (k : Int) < T.length := by omega
    have w1 : IntKind.i64.wrap ((k : Int) + 1) = (k : Int) + 1 := wi64 (by omega) (by omega)
    have t1 : ((238 : UInt8).toNat : Int) = 238 := rfl
    rw [t1] at g2
    simp [M.b3_0, E.eqs, e3, e4, e8, e9, e10, ln, c1, g1, g2, w1, t1]

theorem w_loop {h0 : Heap} {xa : SV} {l : List Lay} {i : Nat} (ra : Row h0 xa 5 l.length (layC l)) (hl : ∀ z ∈ l, z.ok h0 ∧ z.t.length ≤ 2 ^ 36) (hn : l.length ≤ 2 ^ 30) (hs : sizeL l ≤ 2 ^ 36) : ∀ (m k : Nat) (h : Heap) (x : SV) (e : Env), k + m = l.length → WI h0 h i x (laidB (l.take k)) (laidB (l.take k)) →
    e.get 0 = [.sc xa] → e.get 3 = [.sc x] → e.get 4 = [.sc (.ptr i 0 1)] → e.get 5 = [.sc (.int .i64 k)] →
    ∃ h' x', loopE F O (.loop [0, 3, 4, 5] M.b3_1) e h = some (.exit 0, [(0, [.sc xa]), (3, [.sc x']), (4, [.sc (.ptr i 0 1)]), (5, [.sc (.int .i64 l.length)]), (21, [.sc (.bool false)])], h') ∧ WI h0 h' i x' (laidB l) (laidB l)
  | 0, k, h, x, e, hk, s, e0, e3, e4, e5 => by
    have : k = l.length := by omega
    subst this
    rw [List.take_length] at s
    have ln := lenA_row (ra.mod s.li.mod fun _ _ h => h)
    exact ⟨h, x, exitM fun R RO RD RT E => by simp [M.b3_1, E.eqs, e0, e3, e4, e5, ln], s⟩
  | m + 1, k, h, x, e, hk, s, e0, e3, e4, e5 => by
    obtain ⟨z, hz⟩ : ∃ z, l[k]? = some z := ⟨_, List.getElem?_eq_getElem (by omega)⟩
    have hzm := List.mem_of_getElem? hz
    obtain ⟨⟨⟨zw1, zw2⟩, zn, ⟨zi1, zi2⟩, zr⟩, zt⟩ := hl z hzm
    have at1 : ∀ {h1 : Heap}, Mod (fun _ => False) h0 h1 → _ := fun {h1} md => lay_at (ra.mod md fun _ _ h => h) hz
    have ln := lenA_row (ra.mod s.li.mod fun _ _ h => h)
    obtain ⟨g1, g2, g3, g4, g5, g6, g7⟩ := at1 s.li.mod
    have c1 : (k : Int) < l.length := by omega
    have w1 : IntKind.i64.wrap ((k : Int) + 1) = (k : Int) + 1 := wi64 (by omega) (by omega)
    have hsz : (laidB (l.take k)).length ≤ 2 ^ 37 := by
      have h1 := laidB_le (l.take k) fun z hz => (hl z (List.mem_of_mem_take hz)).imp id fun h => by omega
      have h2 := sizeL_take l k
      have h3 : (l.take k).length ≤ l.length := by simp; omega
      omega
    have hly : (layB z).length ≤ 2 ^ 37 := by
      have := layB_le (hl z hzm).1 (by omega)
      omega
    have pk := spec14 h (n := z.what) (m := 4) (by omega) (by omega) zw1 zw2
    have p0 := Int.emod_nonneg z.what (b := 4) (by omega)
    have p5 := Int.emod_lt_of_pos z.what (b := 4) (by omega)
    have key : ∃ h1 x1, (∀ R RO RD RT, Mach F O R RO RD RT → R M.b3_1 (keep [0, 3, 4, 5] e) h = some (.normal, [(0, [.sc xa]), (3, [.sc x1]), (4, [.sc (.ptr i 0 1)]), (5, [.sc (.int .i64 ((k + 1 : Nat) : Int))])], h1)) ∧ WI h0 h1 i x1 (laidB (l.take k) ++ layB z) (laidB (l.take k) ++ layB z) := by
      unfold layB at hly ⊢
      generalize z.what % 4 = q at *
      have hw : q = 0 ∨ q = 1 ∨ q = 3 ∨ q = 2 := by omega
      rcases hw with rfl | rfl | rfl | rfl
      · change ([z.b]).length ≤ 2 ^ 37 at hly
        suffices H : ∃ h1 x1, (∀ R RO RD RT, Mach F O R RO RD RT → R M.b3_1 (keep [0, 3, 4, 5] e) h = some (.normal, [(0, [.sc xa]), (3, [.sc x1]), (4, [.sc (.ptr i 0 1)]), (5, [.sc (.int .i64 ((k + 1 : Nat) : Int))])], h1)) ∧ WI h0 h1 i x1 (laidB (l.take k) ++ [z.b]) (laidB (l.take k) ++ [z.b]) from H
        obtain ⟨h1, s1, st⟩ := spec15 z.b s.li.wr (by omega)
        have s' := s.wstep st
        obtain ⟨f1, f2, f3, f4, f5, f6, f7⟩ := at1 s'.li.mod
        obtain ⟨a1, so⟩ := own_app1 s'.own z.b (by simp [lim]; omega)
        refine ⟨_, _, fun R RO RD RT E => ?_, s'.ostep so⟩
        simp [M.b3_1, E.eqs, e0, e3, e4, e5, ln, c1, w1, g1, g2, g3, g4, pk, s1, f1, f2, f4, a1]
      · change (numB z.n).length ≤ 2 ^ 37 at hly
        suffices H : ∃ h1 x1, (∀ R RO RD RT, Mach F O R RO RD RT → R M.b3_1 (keep [0, 3, 4, 5] e) h = some (.normal, [(0, [.sc xa]), (3, [.sc x1]), (4, [.sc (.ptr i 0 1)]), (5, [.sc (.int .i64 ((k + 1 : Nat) : Int))])], h1)) ∧ WI h0 h1 i x1 (laidB (l.take k) ++ numB z.n) (laidB (l.take k) ++ numB z.n) from H
        obtain ⟨h1, s1, st⟩ := spec16 zn s.li.wr (by omega)
        have s' := s.wstep st
        obtain ⟨f1, f2, f3, f4, f5, f6, f7⟩ := at1 s'.li.mod
        obtain ⟨h2, y, r1, fr⟩ := spec17 h1 zn
        have s2 := s'.fresh fr.mod
        obtain ⟨a1, so⟩ := own_app s2.own (srcOf_row fr.row) (by simp [lim]; omega)
        refine ⟨_, _, fun R RO RD RT E => ?_, s2.ostep so⟩
        simp [M.b3_1, E.eqs, e0, e3, e4, e5, ln, c1, w1, g1, g2, g3, g5, pk, s1, f1, f2, f5, r1, a1]
      · change (numB (zz z.i)).length ≤ 2 ^ 37 at hly
        suffices H : ∃ h1 x1, (∀ R RO RD RT, Mach F O R RO RD RT → R M.b3_1 (keep [0, 3, 4, 5] e) h = some (.normal, [(0, [.sc xa]), (3, [.sc x1]), (4, [.sc (.ptr i 0 1)]), (5, [.sc (.int .i64 ((k + 1 : Nat) : Int))])], h1)) ∧ WI h0 h1 i x1 (laidB (l.take k) ++ numB (zz z.i)) (laidB (l.take k) ++ numB (zz z.i)) from H
        obtain ⟨h1, s1, st⟩ := spec18 zi1 zi2 s.li.wr (by omega)
        have s' := s.wstep st
        obtain ⟨f1, f2, f3, f4, f5, f6, f7⟩ := at1 s'.li.mod
        obtain ⟨h2, y, r1, fr⟩ := spec19 h1 zi1 zi2
        have s2 := s'.fresh fr.mod
        obtain ⟨a1, so⟩ := own_app s2.own (srcOf_row fr.row) (by simp [lim]; omega)
        refine ⟨_, _, fun R RO RD RT E => ?_, s2.ostep so⟩
        simp [M.b3_1, E.eqs, e0, e3, e4, e5, ln, c1, w1, g1, g2, g3, g6, pk, s1, f1, f2, f6, r1, a1]
      · change ((numB z.t.length ++ z.t)).length ≤ 2 ^ 37 at hly
        suffices H : ∃ h1 x1, (∀ R RO RD RT, Mach F O R RO RD RT → R M.b3_1 (keep [0, 3, 4, 5] e) h = some (.normal, [(0, [.sc xa]), (3, [.sc x1]), (4, [.sc (.ptr i 0 1)]), (5, [.sc (.int .i64 ((k + 1 : Nat) : Int))])], h1)) ∧ WI h0 h1 i x1 (laidB (l.take k) ++ (numB z.t.length ++ z.t)) (laidB (l.take k) ++ (numB z.t.length ++ z.t)) from H
        have zr0 := zr.mod s.li.mod fun _ _ h => h
        have cp := copy_app zr0 (by omega)
        have cf := copy_fresh h z.t
        obtain ⟨ha, hae⟩ : ∃ ha : Heap, ha = h ++ [⟨.row 5 1, Go.Abs.bytes z.t⟩] := ⟨_, rfl⟩
        obtain ⟨y6, hy6⟩ : ∃ y6 : SV, y6 = .sl h.length 0 z.t.length z.t.length := ⟨_, rfl⟩
        obtain ⟨e6, e6x⟩ : ∃ v : SV, v = .sl h.length 0 0 0 := ⟨_, rfl⟩
        have al : ∀ B : Blk, _ := fun B => at1 (s.li.mod.trans (Mod.app (fun _ => False) h [B]) fun _ _ h => h)
        obtain ⟨b1, b2, b3, b4, b5, b6, b7⟩ := al ⟨.row 5 1, []⟩
        rw [← hae, ← hy6] at cf cp
        have sa := s.fresh cf.mod
        obtain ⟨h1, s1, st⟩ := spec20 sa.li.wr (by omega) cf.row (by omega) (fun j hj hs => by
          have := cf.new j hj
          rcases wr_other s.li.wr cf.mod (fun _ _ h => h) with ⟨_, a2⟩
          have := s.li.wr.wset_lt j (a2 j hs)
          omega)
        have nd : ∀ j, blk y6 j → ¬ wset ha i j := fun j hj hs => by
          have := cf.new j hj
          rcases wr_other s.li.wr cf.mod (fun _ _ h => h) with ⟨_, a2⟩
          have := s.li.wr.wset_lt j (a2 j hs)
          omega
        have o6 := cf.own.mod st.mod nd
        have sb := sa.wstep st
        obtain ⟨f1, f2, f3, f4, f5, f6, f7⟩ := at1 sb.li.mod
        obtain ⟨h2, y, r1, fr⟩ := spec21 (zr.mod sb.li.mod fun _ _ h => h) (by omega)
        have sc := sb.fresh fr.mod
        have o6 := o6.mod fr.mod fun _ _ h => h
        obtain ⟨a1, so⟩ := own_app sc.own (srcOf_row fr.row) (by simp only [lim]; omega)
        generalize appV h2 x 1 (numB z.t.length ++ z.t).length = xn at a1 so
        generalize appH h2 x 5 1 (numB z.t.length ++ z.t).length (Go.Abs.bytes (numB z.t.length ++ z.t)) = hn at a1 so
        have sd := sc.ostep so
        have dx : ∀ j, blk y6 j → ¬ blk x j := fun j hj hb => by
          have := cf.new j hj
          have := s.own.lt j hb
          omega
        have o6 := o6.mod so.mod dx
        obtain ⟨k1, k2, k3, k4, k5, k6, k7⟩ := at1 sd.li.mod
        have q1 := b2sA_row o6.row
        have q2 := b2sA_row (zr.mod sd.li.mod fun _ _ h => h)
        obtain ⟨h3, lo, lm⟩ := fill2 (x := y6) (v0 := [.sc xa]) (v3 := [.sc xn]) (v4 := [.sc (.ptr i 0 1)]) (v5 := [.sc (.int .i64 k)]) z.t.length 0 z.t _ [(0, [.sc xa]), (3, [.sc xn]), (4, [.sc (.ptr i 0 1)]), (5, [.sc (.int .i64 k)]), (6, [.sc y6]), (7, [.sc (.int .i64 0)])] (by omega) (by omega) o6 rfl rfl rfl rfl rfl rfl
        have lo := loop_run lo
        have se : WI h0 h3 i _ _ _ := sd.other lm fun j hj => by
          have h1 := cf.new j hj
          have h2 := s.li.mod.1
          refine ⟨by omega, fun hs => ?_, fun hb => ?_⟩
          · have a3 := (wr_other sc.li.wr so.mod fun j hj hb => sc.dis j hb hj).2
            have a2 := (wr_other sb.li.wr fr.mod fun j hj hb => hb).2
            rcases st.new j (a2 j (a3 j hs)) with h3 | h3
            · exact nd j hj h3
            · have := cf.own.lt j hj
              omega
          · rcases so.new j hb with h3 | h3
            · exact dx j hj h3
            · have := cf.own.lt j hj
              have := st.mod.1
              have := fr.mod.1
              omega
        refine ⟨h3, _, fun R RO RD RT E => ?_, se⟩
        have lo := E.run lo
        simp [M.b3_1, E.eqs, e0, e3, e4, e5, ln, c1, w1, g1, g2, g3, g7, pk, b1, b2, b7, cp, s1, f1, f2, f7, r1, a1, k1, k2, k7, q1, q2, lo]
    obtain ⟨h1, x1, st, s1⟩ := key
    rw [← laidB_take l hz] at s1
    obtain ⟨h2, x2, lo, s2⟩ := w_loop ra hl hn hs m (k + 1) h1 x1 [(0, [.sc xa]), (3, [.sc x1]), (4, [.sc (.ptr i 0 1)]), (5, [.sc (.int .i64 ((k + 1 : Nat) : Int))])] (by omega) s1 rfl rfl rfl rfl
    exact ⟨h2, x2, stepM st lo, s2⟩

theorem core {H : Type} (h : Heap) (tvs : List TV) (ds : List (DataW H)) (hr : AllRo h) (hi : Ins Try.prog h 6 [22] tvs ds) (hb : Rows.uptoBulkAll ds ≤ 1048576) : ∃ h', callE F O 3 tvs h = some ([.sc (.bool true)], h') := by
  obtain ⟨tv, d, rfl, rfl, h1⟩ := ins_one hi
  obtain ⟨x, l, rfl, hx, hl, hls⟩ := in_lays h1
  simp only [Rows.uptoBulkAll] at hb
  have hlz : ∀ z ∈ l, z.ok h ∧ z.t.length ≤ 2 ^ 36 := fun z hz => ⟨hl z hz, by
    have : z.t.length ≤ sizeL l := size_mem hz
    omega⟩
  have s0 := spec12 h
  have hm : Mod (fun _ => False) h (h ++ [⟨.var, [.nils]⟩]) := Mod.app _ _ _
  have li : WI h (h ++ [⟨.var, [.nils]⟩]) h.length .nils (laidB (l.take 0)) (laidB (l.take 0)) := ⟨⟨by simpa [laidB] using wr_new h, hm, fun j hj => by
    rcases hj with rfl | ⟨x, hx, hb⟩
    · exact Nat.le_refl _
    · simp at hx
      subst hx
      exact hb.elim⟩, by simpa [laidB] using own_nils _, fun j hj => hj.elim, fun j hj => hj.elim⟩
  have kn := spec13 (h ++ [⟨.var, [.nils]⟩])
  obtain ⟨h1, xw, lo, s1⟩ := w_loop hx hlz (by omega) (by omega) l.length 0 _ _ [(0, [.sc x]), (3, [.sc .nils]), (4, [.sc (.ptr h.length 0 1)]), (5, [.sc (.int .i64 0)])] (by omega) li rfl rfl rfl rfl
  have lo := loop_run lo
  have hsz : (laidB l).length ≤ 2 ^ 37 := by
    have := laidB_le l fun z hz => (hlz z hz).imp id fun h => by omega
    omega
  obtain ⟨h2, y, e2, f2⟩ := spec22 s1.li.wr (by omega)
  have s2 := s1.fresh f2.mod
  have b1 := b2sA_row f2.row
  have b2 := b2sA_row s2.own.row
  obtain ⟨h3, lo3, m3⟩ := fill0 (x := y) (v3 := [.sc xw]) (v4 := [.sc (.ptr h.length 0 1)]) (v9 := [.sc (.bool true)]) (laidB l).length 0 (laidB l) h2 [(3, [.sc xw]), (4, [.sc (.ptr h.length 0 1)]), (8, [.sc y]), (9, [.sc (.bool true)]), (10, [.sc (.int .i64 0)])] (by omega) (by omega) f2.own rfl rfl rfl rfl rfl
  have lo3 := loop_run lo3
  have s3 : WI h h3 h.length xw (laidB l) (laidB l) := s2.other m3 fun j hj => by
    have h1 := f2.new j hj
    have h2 := s1.li.mod.1
    refine ⟨by omega, fun hs => ?_, fun hb => ?_⟩
    · rcases wr_other s1.li.wr f2.mod (fun _ _ h => h) with ⟨_, a2⟩
      have := s1.li.wr.wset_lt j (a2 j hs)
      omega
    · have := s1.own.lt j hb
      omega
  obtain ⟨h4, y4, e4, f4⟩ := spec22 s3.li.wr (by omega)
  have s4 := s3.fresh f4.mod
  have b3 := b2sA_row f4.row
  have b4 := b2sA_row s4.own.row
  have b5 := b2sA_row s3.own.row
  refine ⟨_, callX (hh := trim h h4 [.sc (.bool true)]) rfl (by rfl : F 3 = some M.a3) (fun R RO RD RT E => ?_)⟩
  have lo := E.run lo
  have lo3 := E.run lo3
  simp [M.a3, E.eqs, s0, freshB, kn, lo, e2, b1, b2, lo3, e4, b3, b4, b5, tvSame_refl]
end Go.Proofs.Ytokdnndocipilaa.lawPackWrites
