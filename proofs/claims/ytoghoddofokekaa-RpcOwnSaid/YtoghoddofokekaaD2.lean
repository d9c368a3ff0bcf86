/- Several chapters in one text. -/
import Derived.Test.YtoghoddofokekaaD1
section
set_option linter.unusedVariables false
set_option linter.unusedSimpArgs false
set_option maxRecDepth 100000
namespace Go.Proofs.Ytoghoddofokekaa
open Go.Abs

theorem layName_loop {i : Nat} {s : List UInt8} (hs : s.length < 1000) : ∀ (m k : Nat) (h : Heap) (l : List UInt8) (e : Env), k + m = s.length → Wr h i l → l.length + m ≤ 140737488352256 → e.get 0 = [.sc (.ptr i 0 1)] → e.get 1 = [.sc (.str s)] → e.get 4 = [.sc (.int .i64 k)] →
    ∃ h' e', loopE F O (.loop [0, 1, 4] M.b116_0) e h = some (.exit 0, e', h') ∧ WStep h i l h' (s.drop k)
  | 0, k, h, l, e, hk, w, hl, e0, e1, e4 => by
    have c1 : ¬ (k : Int) < s.length := by omega
    refine ⟨h, [(0, [.sc (.ptr i 0 1)]), (1, [.sc (.str s)]), (4, [.sc (.int .i64 k)]), (8, [.sc (.bool false)])], exitM fun R RO RD RT E => ?_, by rw [List.drop_eq_nil_of_le (by omega)]; exact WStep.refl w⟩
    simp [M.b116_0, E.eqs, e0, e1, e4, c1]
  | m + 1, k, h, l, e, hk, w, hl, e0, e1, e4 => by
    have hlt : k < s.length := by omega
    obtain ⟨b, hb⟩ : ∃ b, s[k]? = some b := ⟨_, List.getElem?_eq_getElem hlt⟩
    have hd : s.drop k = b :: s.drop (k + 1) := by
      rw [List.drop_eq_getElem_cons hlt]
      congr 1
      rw [List.getElem?_eq_getElem hlt] at hb
      injection hb
    have c1 : (k : Int) < s.length := by omega
    have w1 : IntKind.i64.wrap ((k : Int) + 1) = (k : Int) + 1 := wi64 (by omega) (by omega)
    obtain ⟨h1, q1, st1⟩ := spec61 b w (by omega)
    obtain ⟨h', e', lo, st2⟩ := layName_loop hs m (k + 1) h1 (l ++ [b]) [(0, [.sc (.ptr i 0 1)]), (1, [.sc (.str s)]), (4, [.sc (.int .i64 ((k + 1 : Nat) : Int))])] (by omega) st1.wr (by simp; omega) rfl rfl rfl
    refine ⟨h', e', stepM (fun R RO RD RT E => ?_) lo, by rw [hd]; exact st1.trans st2⟩
    clear lo st2
    simp [M.b116_0, E.eqs, e0, e1, e4, c1, w1, hb, q1]

theorem spec116 {h : Heap} {i : Nat} {l s : List UInt8} (hs : s.length < 1000) (w : Wr h i l) (hl : l.length + s.length ≤ 140737488352256) : ∃ h', call 116 [[.sc (.ptr i 0 1)], [.sc (.str s)]] h = some ([], h') ∧ WStep h i l h' s := by
  obtain ⟨h', e', lo, st⟩ := layName_loop hs s.length 0 h l [(0, [.sc (.ptr i 0 1)]), (1, [.sc (.str s)]), (4, [.sc (.int .i64 0)])] (by omega) w hl rfl rfl rfl
  rw [List.drop_zero] at st
  have lo := loop_run lo
  refine ⟨_, callX (hh := Go.Abs.trim h h' []) rfl (by rfl : F 116 = some M.a116) (fun R RO RD RT E => ?_), st.trim w []⟩
  have lo := E.run lo
  simp [M.a116, E.eqs, lo]

/-- a command's parts, as they may be -/
structure Cm.Ok (c : Cm) : Prop where
  s : c.s < 18446744073709551616
  q : c.q < 18446744073709551616
  a : c.a < 18446744073709551616
  b : c.b < 18446744073709551616
  lo : c.lo < 18446744073709551616
  h1 : -9223372036854775808 ≤ c.hi
  h2 : c.hi < 9223372036854775808

def layB (c : Cm) : Nat → List UInt8
  | 0 => numB c.s
  | 1 => numB c.q
  | 2 => numB c.a
  | 3 => numB c.b
  | 4 => decB c.hi c.lo c.sc
  | 5 => c.x
  | _ => c.y

theorem layB_le {c : Cm} (ok : c.Ok) (hx : c.x.length ≤ 3) (hy : c.y.length ≤ 3) (j : Nat) : (layB c j).length ≤ 21 := by
  unfold layB
  split
  · exact Nat.le_trans (numB_le ok.s) (by omega)
  · exact Nat.le_trans (numB_le ok.q) (by omega)
  · exact Nat.le_trans (numB_le ok.a) (by omega)
  · exact Nat.le_trans (numB_le ok.b) (by omega)
  · exact decB_le ok.h1 ok.h2 ok.lo
  · omega
  · omega

theorem spec87 {h : Heap} {i : Nat} {l : List UInt8} {c : Cm} (ok : c.Ok) (hx : c.x.length ≤ 3) (hy : c.y.length ≤ 3) (w : Wr h i l) (hl : l.length ≤ 2 ^ 37) {j : Nat} (hj : j < 7) :
    ∃ h', call 87 [[.sc (.ptr i 0 1)], [.agg c.cells], [.sc (.int .i64 (pw j))]] h = some ([], h') ∧ WStep h i l h' (layB c j) := by
  have wb := w.app [⟨.var, c.cells⟩]
  rcases (by omega : j = 0 ∨ j = 1 ∨ j = 2 ∨ j = 3 ∨ j = 4 ∨ j = 5 ∨ j = 6) with rfl | rfl | rfl | rfl | rfl | rfl | rfl
  · obtain ⟨g1, e1, st1⟩ := spec70 ok.s wb (by omega)
    refine ⟨_, callX (hh := Go.Abs.trim h g1 []) rfl (by rfl : F 87 = some M.a87) (fun R RO RD RT E => ?_), (WStep.before w st1).trim w []⟩
    simp only [Cm.cells] at e1
    simp [M.a87, E.eqs, pw, fldA, freshB, loadA, Cm.cells, e1]
  · obtain ⟨g1, e1, st1⟩ := spec70 ok.q wb (by omega)
    refine ⟨_, callX (hh := Go.Abs.trim h g1 []) rfl (by rfl : F 87 = some M.a87) (fun R RO RD RT E => ?_), (WStep.before w st1).trim w []⟩
    simp only [Cm.cells] at e1
    simp [M.a87, E.eqs, pw, fldA, freshB, loadA, Cm.cells, e1]
  · obtain ⟨g1, e1, st1⟩ := spec70 ok.a wb (by omega)
    refine ⟨_, callX (hh := Go.Abs.trim h g1 []) rfl (by rfl : F 87 = some M.a87) (fun R RO RD RT E => ?_), (WStep.before w st1).trim w []⟩
    simp only [Cm.cells] at e1
    simp [M.a87, E.eqs, pw, fldA, freshB, loadA, Cm.cells, e1]
  · obtain ⟨g1, e1, st1⟩ := spec70 ok.b wb (by omega)
    refine ⟨_, callX (hh := Go.Abs.trim h g1 []) rfl (by rfl : F 87 = some M.a87) (fun R RO RD RT E => ?_), (WStep.before w st1).trim w []⟩
    simp only [Cm.cells] at e1
    simp [M.a87, E.eqs, pw, fldA, freshB, loadA, Cm.cells, e1]
  · obtain ⟨g1, e1, st1⟩ := spec71 (s := c.sc) ok.h1 ok.h2 ok.lo wb (by omega)
    refine ⟨_, callX (hh := Go.Abs.trim h g1 []) rfl (by rfl : F 87 = some M.a87) (fun R RO RD RT E => ?_), (WStep.before w st1).trim w []⟩
    simp only [Cm.cells] at e1
    simp [M.a87, E.eqs, pw, fldA, freshB, loadA, Cm.cells, e1]
  · obtain ⟨g1, e1, st1⟩ := spec116 (s := c.x) (by omega) wb (by omega)
    refine ⟨_, callX (hh := Go.Abs.trim h g1 []) rfl (by rfl : F 87 = some M.a87) (fun R RO RD RT E => ?_), (WStep.before w st1).trim w []⟩
    simp only [Cm.cells] at e1
    simp [M.a87, E.eqs, pw, fldA, freshB, loadA, Cm.cells, e1]
  · obtain ⟨g1, e1, st1⟩ := spec116 (s := c.y) (by omega) wb (by omega)
    refine ⟨_, callX (hh := Go.Abs.trim h g1 []) rfl (by rfl : F 87 = some M.a87) (fun R RO RD RT E => ?_), (WStep.before w st1).trim w []⟩
    simp only [Cm.cells] at e1
    simp [M.a87, E.eqs, pw, fldA, freshB, loadA, Cm.cells, e1]
end Go.Proofs.Ytoghoddofokekaa
end

section
set_option linter.unusedVariables false
set_option linter.unusedSimpArgs false
set_option maxRecDepth 100000
namespace Go.Proofs.Ytoghoddofokekaa
open Go.Abs

def layFrom (c : Cm) : Nat → Nat → List UInt8
  | 0, _ => []
  | m + 1, j => (if fl c.k j then layB c j else []) ++ layFrom c m (j + 1)
def encB (c : Cm) : List UInt8 := UInt8.ofNat (c.k % 256).toNat :: layFrom c 7 0
def encL (c : Cm) : List UInt8 := if rightC c then encB c else []
def encE (c : Cm) : Int := if rightC c then 0 else 1

theorem layFrom_le {c : Cm} (ok : c.Ok) (hx : c.x.length ≤ 3) (hy : c.y.length ≤ 3) : ∀ (m j : Nat), (layFrom c m j).length ≤ 21 * m
  | 0, j => by simp [layFrom]
  | m + 1, j => by
    have h1 := layB_le ok hx hy j
    have h2 := layFrom_le ok hx hy m (j + 1)
    unfold layFrom
    split <;> simp <;> omega

theorem enc_loop {i p : Nat} {c : Cm} (ok : c.Ok) (hx : c.x.length ≤ 3) (hy : c.y.length ≤ 3) {h0 : Heap} (hp : h0[p]? = some ⟨.var, c.cells⟩) : ∀ (m j : Nat) (h : Heap) (w : List UInt8) (e : Env), j + m = 7 → LI h0 h i w → w.length + 21 * m ≤ 2 ^ 36 → e.get 1 = [.sc (.ptr p 0 10)] → e.get 4 = [.sc (.ptr i 0 1)] → e.get 5 = [.sc (.int .i64 (mask c.k))] → e.get 6 = [.sc (.int .i64 (pw j))] →
    ∃ h' e', loopE F O (.loop [1, 4, 5, 6] M.b36_0) e h = some (.exit 0, e', h') ∧ e'.get 4 = [.sc (.ptr i 0 1)] ∧ LI h0 h' i (w ++ layFrom c m j)
  | 0, j, h, w, e, hj, li, hw, e1, e4, e5, e6 => by
    have : j = 7 := by omega
    subst this
    have p7 : pw 7 = 128 := rfl
    rw [p7] at e6
    refine ⟨h, [(1, [.sc (.ptr p 0 10)]), (4, [.sc (.ptr i 0 1)]), (5, [.sc (.int .i64 (mask c.k))]), (6, [.sc (.int .i64 128)]), (20, [.sc (.bool false)])], exitM fun R RO RD RT E => ?_, rfl, by simpa [layFrom] using li⟩
    simp [M.b36_0, E.eqs, e1, e4, e5, e6]
  | m + 1, j, h, w, e, hj, li, hw, e1, e4, e5, e6 => by
    have hlt : j < 7 := by omega
    have mb := mask_bit c.k j hlt
    have p1 := pw_ne hlt
    have p2 := pw_lt hlt
    have p3 : IntKind.i64.wrap (pw j * 2 ^ shAmt .i64 1) = pw (j + 1) := by
      clear mb e6 p1 p2
      rcases (by omega : j = 0 ∨ j = 1 ∨ j = 2 ∨ j = 3 ∨ j = 4 ∨ j = 5 ∨ j = 6) with rfl | rfl | rfl | rfl | rfl | rfl | rfl <;> rfl
    obtain ⟨h1, q1, st1⟩ := spec87 ok hx hy li.wr (by omega) hlt
    have hle := layB_le ok hx hy j
    have hB := li.mod.get hp fun h => h
    have hlen : c.cells.length = 10 := rfl
    have ht : c.cells.take 10 = c.cells := rfl
    cases hf : fl c.k j
    · obtain ⟨h', e', lo, g4, li'⟩ := enc_loop ok hx hy hp m (j + 1) h w [(1, [.sc (.ptr p 0 10)]), (4, [.sc (.ptr i 0 1)]), (5, [.sc (.int .i64 (mask c.k))]), (6, [.sc (.int .i64 (pw (j + 1)))])] (by omega) li (by omega) rfl rfl rfl rfl
      rw [hf] at mb
      simp only [Bool.false_eq_true, if_false] at mb
      refine ⟨h', e', stepM (fun R RO RD RT E => ?_) lo, g4, by rw [layFrom, hf]; simpa using li'⟩
      clear lo li' st1 q1
      generalize pw (j + 1) = pn at *
      generalize pw j = pj at *
      simp [M.b36_0, E.eqs, e1, e4, e5, e6, p1, p2, p3, mb]
    · have li1 := li.step st1
      obtain ⟨h', e', lo, g4, li'⟩ := enc_loop ok hx hy hp m (j + 1) h1 (w ++ layB c j) [(1, [.sc (.ptr p 0 10)]), (4, [.sc (.ptr i 0 1)]), (5, [.sc (.int .i64 (mask c.k))]), (6, [.sc (.int .i64 (pw (j + 1)))])] (by omega) li1 (by simp; omega) rfl rfl rfl rfl
      rw [hf] at mb
      simp only [if_true] at mb
      refine ⟨h', e', stepM (fun R RO RD RT E => ?_) lo, g4, by rw [layFrom, hf]; simpa using li'⟩
      clear lo li' st1 li1
      generalize pw (j + 1) = pn at *
      generalize pw j = pj at *
      generalize c.cells = cs at *
      simp [M.b36_0, E.eqs, e1, e4, e5, e6, p1, p2, p3, mb, loadA, hB, hlen, ht, q1]

theorem nameB_len {l : List UInt8} (h : nameB l = true) : l.length = 3 := by
  unfold nameB at h
  simp at h
  exact h.1
theorem fromOk_fld {c : Cm} : ∀ {m j i : Nat}, fromOk c m j = true → j ≤ i → i < j + m → fldOk c i = true
  | 0, j, i, h, h1, h2 => by omega
  | m + 1, j, i, h, h1, h2 => by
    unfold fromOk at h
    simp at h
    by_cases hi : i = j
    · rw [hi]; exact h.1
    · exact fromOk_fld (m := m) (j := j + 1) h.2 (by omega) (by omega)
theorem right_len {c : Cm} (h : rightC c = true) : c.x.length ≤ 3 ∧ c.y.length ≤ 3 := by
  unfold rightC at h
  simp only [Bool.and_eq_true] at h
  have h5 := fromOk_fld (i := 5) h.2 (by omega) (by omega)
  have h6 := fromOk_fld (i := 6) h.2 (by omega) (by omega)
  unfold fldOk at h5 h6
  constructor
  · split at h5
    · have := nameB_len h5; omega
    · simp [bareB] at h5
      simp [h5]
  · split at h6
    · have := nameB_len h6; omega
    · simp [bareB] at h6
      simp [h6]

theorem spec36 (h : Heap) {c : Cm} (ok : c.Ok) (hx : c.x.length < 9223372036854775808) (hy : c.y.length < 9223372036854775808) :
    ∃ h' y, call 36 [[.agg c.cells]] h = some ([.sc y, .sc (.int .i64 (encE c))], h') ∧ Fresh h h' y (encL c) := by
  obtain ⟨hb, hhb⟩ : ∃ hb : Heap, hb = h ++ [⟨.var, c.cells⟩] := ⟨_, rfl⟩
  have bb : hb[h.length]? = some ⟨.var, c.cells⟩ := by rw [hhb]; simp
  have mb : Mod (fun _ => False) h hb := by rw [hhb]; exact Mod.app _ _ _
  have qr := spec37 hb c hx hy
  have hlen : c.cells.length = 10 := rfl
  have ht : c.cells.take 10 = c.cells := rfl
  have c0 : ∀ hh, c.cells[0]'hh = .int .i64 c.k := fun _ => rfl
  unfold encE encL
  cases hc : rightC c
  · rw [hc] at qr
    have tr : trim h hb [.sc .nils, .sc (.int .i64 1)] = h := by rw [hhb]; exact trim_pure rfl
    refine ⟨_, .nils, callX (hh := h) rfl (by rfl : F 36 = some M.a36) (fun R RO RD RT E => ?_), Fresh.nils (Mod.refl _ _)⟩
    generalize c.cells = cs at *
    simp [M.a36, E.eqs, ← hhb, bb, fldA, freshB, loadA, hlen, ht, qr, tr]
  · rw [hc] at qr
    obtain ⟨hx3, hy3⟩ := right_len hc
    have s0 := spec60 hb
    have l0 := li_new hb
    obtain ⟨b, hbd⟩ : ∃ b, b = UInt8.ofNat (c.k % 256).toNat := ⟨_, rfl⟩
    have hw := byte_of c.k
    rw [← hbd] at hw
    obtain ⟨g1, e1, st1⟩ := spec61 b l0.wr (by simp)
    have l1 := l0.step st1
    obtain ⟨g2, e', lo, g4, l2⟩ := enc_loop ok hx3 hy3 bb 7 0 g1 _ [(1, [.sc (.ptr h.length 0 10)]), (4, [.sc (.ptr hb.length 0 1)]), (5, [.sc (.int .i64 (mask c.k))]), (6, [.sc (.int .i64 1)])] (by omega) l1 (by simp) rfl rfl rfl rfl
    have lo := loop_run lo
    have hle := layFrom_le ok hx3 hy3 7 0
    obtain ⟨g3, y, e4, f4⟩ := spec64 l2.wr (by simp; omega)
    have qf := fun h => spec82 h c.k
    have x0 : (hb ++ [⟨.var, [.nils]⟩])[h.length]? = some ⟨.var, c.cells⟩ := l0.mod.get bb fun h => h
    have x1 := l1.mod.get bb fun h => h
    have fr : Fresh h g3 y (encB c) := by
      have := f4.after (mb.trans l2.mod fun _ _ h => h)
      unfold encB
      rw [← hbd]
      simpa using this
    refine ⟨_, y, callX (hh := trim h g3 [.sc y, .sc (.int .i64 0)]) rfl (by rfl : F 36 = some M.a36) (fun R RO RD RT E => ?_), fr.trim2 _⟩
    have lo := E.run lo
    clear fr f4 l2 st1 l1 l0
    generalize c.cells = cs at *
    simp [M.a36, E.eqs, ← hhb, bb, fldA, freshB, loadA, hlen, ht, c0, qr, s0, x0, hw, e1, x1, qf, lo, g4, e4]
end Go.Proofs.Ytoghoddofokekaa
end

section
set_option linter.unusedVariables false
set_option linter.unusedSimpArgs false
set_option maxRecDepth 100000
namespace Go.Proofs.Ytoghoddofokekaa
open Go.Abs

/-- what is read as a number is laid as the same bytes -/
theorem canon : ∀ (t : List UInt8) (k m v j : Nat), numD t k m = (v, 0, j) → k ≤ 9 → k ≤ j ∧ ∃ n, v = m + n * 2 ^ (7 * k) ∧ t.take (j - k) = numB n ∧ (0 < k → 0 < n)
  | [], k, m, v, j, h, hk => by simp [numD] at h
  | x :: t, k, m, v, j, h, hk => by
    have hx := x.toNat_lt
    unfold numD at h
    split at h
    · simp at h
    · split at h
      · rename_i h9 h128
        obtain ⟨h1, n, h2, h3, h4⟩ := canon t (k + 1) _ v j h (by omega)
        have h4 := h4 (by omega)
        refine ⟨by omega, x.toNat % 128 + 128 * n, ?_, ?_, fun _ => by omega⟩
        · rw [h2]
          have hp : 2 ^ (7 * (k + 1)) = 128 * 2 ^ (7 * k) := by rw [Nat.mul_add, Nat.pow_add, Nat.mul_comm]
          rw [hp, Nat.add_mul]
          grind
        · rw [numB_big (by omega), show j - k = (j - (k + 1)) + 1 by omega, List.take_succ_cons, h3]
          have e1 : (x.toNat % 128 + 128 * n) % 128 + 128 = x.toNat := by omega
          have e2 : (x.toNat % 128 + 128 * n) / 128 = n := by omega
          rw [e1, e2, UInt8.ofNat_toNat]
      · rename_i h9 h128
        split at h
        · simp at h
        · rename_i h0
          simp only [Prod.mk.injEq, true_and] at h
          obtain ⟨h, rfl⟩ := h
          refine ⟨by omega, x.toNat, by rw [← h, Nat.mod_eq_of_lt (by omega)], ?_, fun hk => by omega⟩
          rw [numB_small (by omega), show k + 1 - k = 1 by omega, UInt8.ofNat_toNat]
          rfl

theorem take_more (L : List UInt8) {a b : Nat} (h : a ≤ b) : L.take b = L.take a ++ (L.drop a).take (b - a) := by
  rw [← List.take_append_drop a (L.take b), List.take_take, Nat.min_eq_left h, List.drop_take]

theorem num_canon {L : List UInt8} {a most n a' : Nat} (h : rNum L a 0 most = (n, a', 0)) : L.take a' = L.take a ++ numB n := by
  unfold rNum rN at h
  have hs := numD_drop L a
  generalize hD : numD (L.drop a) 0 0 = D at *
  obtain ⟨v, e, j⟩ := D
  simp only [ne_eq, not_true_eq_false, if_false] at h hs
  split at h
  · rename_i he
    injection h with _ h
    injection h with _ h
    exact absurd h he
  · rename_i he
    split at h
    · simp at h
    · simp only [Prod.mk.injEq, and_true] at h
      obtain ⟨rfl, rfl⟩ := h
      have he : e = 0 := by omega
      subst he
      obtain ⟨_, n, h2, h3, _⟩ := canon _ _ _ _ _ hD (by omega)
      simp at h2 h3
      subst h2
      rw [take_more L (Nat.le_add_right a j), Nat.add_sub_cancel_left, h3]
theorem text_canon {L T : List UInt8} {a a' : Nat} {most : Int} (ha : a ≤ L.length) (h : rText L a 0 most = (T, a', 0)) : L.take a' = L.take a ++ (numB T.length ++ T) := by
  unfold rText at h
  have hlt := rNum_lt L a 0 (max most 0).toNat
  generalize hR : rNum L a 0 (max most 0).toNat = R at *
  obtain ⟨n, b, e⟩ := R
  simp only at h hlt
  split at h
  · rename_i he
    injection h with _ h
    injection h with _ h
    exact absurd h he
  · rename_i he
    have he : e = 0 := by omega
    subst he
    split at h
    · simp at h
    · simp only [Prod.mk.injEq, and_true] at h
      obtain ⟨rfl, rfl⟩ := h
      have := hlt.2.1 ha
      have hl : ((L.drop b).take n).length = n := by simp; omega
      rw [hl, take_more L (Nat.le_add_right b n), Nat.add_sub_cancel_left, num_canon hR, List.append_assoc]
theorem zz_of_unzz {n : Nat} : zz (unzz n) = n := by
  unfold zz unzz
  split <;> split <;> omega
theorem unzz_lt {n : Nat} (h : n < 18446744073709551616) : -9223372036854775808 ≤ unzz n ∧ unzz n < 9223372036854775808 := by
  unfold unzz
  split <;> omega


theorem byte_canon {L : List UInt8} {a v a' most : Nat} (h : rByte L a 0 most = (v, a', 0)) : L.take a' = L.take a ++ [UInt8.ofNat v] := by
  unfold rByte at h
  simp only [ne_eq, not_true_eq_false, if_false] at h
  split at h
  · simp at h
  · rename_i b hb
    split at h
    · simp at h
    · simp only [Prod.mk.injEq, and_true] at h
      obtain ⟨rfl, rfl⟩ := h
      rw [UInt8.ofNat_toNat, List.take_add_one, hb]
      rfl
theorem rByte_bad {l : List UInt8} {a bad most : Nat} (h : (rByte l a bad most).2.2 = 0) : bad = 0 := by
  unfold rByte at h
  split at h
  · exact h
  · omega
theorem rNum_bad {l : List UInt8} {a bad most : Nat} (h : (rNum l a bad most).2.2 = 0) : bad = 0 := (rNum_lt l a bad most).2.2.2 h |>.2
theorem rByte_eq {l : List UInt8} {a bad most : Nat} (h : (rByte l a bad most).2.2 = 0) : bad = 0 ∧ l.take (rByte l a bad most).2.1 = l.take a ++ [UInt8.ofNat (rByte l a bad most).1] := by
  have hb := rByte_bad h
  subst hb
  generalize hr : rByte l a 0 most = r at *
  obtain ⟨v, a', e⟩ := r
  simp only at h
  subst h
  exact ⟨rfl, byte_canon hr⟩
theorem rNum_eq {l : List UInt8} {a bad most : Nat} (h : (rNum l a bad most).2.2 = 0) : bad = 0 ∧ l.take (rNum l a bad most).2.1 = l.take a ++ numB (rNum l a bad most).1 := by
  have hb := rNum_bad h
  subst hb
  generalize hr : rNum l a 0 most = r at *
  obtain ⟨v, a', e⟩ := r
  simp only at h
  subst h
  exact ⟨rfl, num_canon hr⟩
theorem rDec_eq {l : List UInt8} {a bad : Nat} (h : (rDec l a bad).2.2 = 0) : bad = 0 ∧ l.take (rDec l a bad).2.1 = l.take a ++ decB (rDec l a bad).1.1 (rDec l a bad).1.2.1 (rDec l a bad).1.2.2 := by
  unfold rDec at h ⊢
  simp only at h ⊢
  obtain ⟨h3, t3⟩ := rNum_eq h
  obtain ⟨h2, t2⟩ := rNum_eq h3
  obtain ⟨h1, t1⟩ := rByte_eq h2
  refine ⟨h1, ?_⟩
  rw [t3, t2, t1]
  unfold decB
  rw [zz_of_unzz]
  have hb := (rByte_lt l a bad 18).2.2
  have e : (((rByte l a bad 18).1 : Int) % 256).toNat = (rByte l a bad 18).1 := by omega
  rw [e]
  simp
theorem rName_eq {l : List UInt8} {a bad : Nat} (h : (rName l a bad).2.2 = 0) : bad = 0 ∧ l.take (rName l a bad).2.1 = l.take a ++ (rName l a bad).1 := by
  unfold rName at h ⊢
  simp only at h ⊢
  obtain ⟨h3, t3⟩ := rByte_eq h
  obtain ⟨h2, t2⟩ := rByte_eq h3
  obtain ⟨h1, t1⟩ := rByte_eq h2
  refine ⟨h1, ?_⟩
  rw [t3, t2, t1]
  simp

theorem rField_eq {l : List UInt8} {j : Nat} (hj : j < 7) {st : Cm × Nat × Nat} (h : (rField l j st).2.2 = 0) : st.2.2 = 0 ∧ l.take (rField l j st).2.1 = l.take st.2.1 ++ layB (rField l j st).1 j := by
  rcases (by omega : j = 0 ∨ j = 1 ∨ j = 2 ∨ j = 3 ∨ j = 4 ∨ j = 5 ∨ j = 6) with rfl | rfl | rfl | rfl | rfl | rfl | rfl
  · exact rNum_eq h
  · exact rNum_eq h
  · exact rNum_eq h
  · exact rNum_eq h
  · exact rDec_eq h
  · exact rName_eq h
  · exact rName_eq h

theorem rField_keep {l : List UInt8} {i j : Nat} (hi : i < 7) (hj : j < 7) (hne : i ≠ j) (st : Cm × Nat × Nat) : layB (rField l j st).1 i = layB st.1 i := by
  rcases (by omega : j = 0 ∨ j = 1 ∨ j = 2 ∨ j = 3 ∨ j = 4 ∨ j = 5 ∨ j = 6) with rfl | rfl | rfl | rfl | rfl | rfl | rfl <;>
  rcases (by omega : i = 0 ∨ i = 1 ∨ i = 2 ∨ i = 3 ∨ i = 4 ∨ i = 5 ∨ i = 6) with rfl | rfl | rfl | rfl | rfl | rfl | rfl <;> first | exact absurd rfl hne | rfl

theorem rFrom_keep {l : List UInt8} {k : Int} : ∀ (m j i : Nat) (st : Cm × Nat × Nat), j + m = 7 → i < j → layB (rFrom l k m j st).1 i = layB st.1 i
  | 0, j, i, st, hj, hi => rfl
  | m + 1, j, i, st, hj, hi => by
    unfold rFrom
    rw [rFrom_keep m (j + 1) i _ (by omega) (by omega)]
    split
    · exact rField_keep (by omega) (by omega) (by omega) st
    · rfl

theorem rFrom_eq {l : List UInt8} {k : Int} : ∀ (m j : Nat) (st : Cm × Nat × Nat), j + m = 7 → st.1.k = k → (rFrom l k m j st).2.2 = 0 → st.2.2 = 0 ∧ l.take (rFrom l k m j st).2.1 = l.take st.2.1 ++ layFrom (rFrom l k m j st).1 m j
  | 0, j, st, hj, hk, h => ⟨h, by simp [layFrom, rFrom]⟩
  | m + 1, j, st, hj, hk, h => by
    have hlt : j < 7 := by omega
    have kk := rFrom_k l k (m + 1) j st
    unfold rFrom at h kk ⊢
    unfold layFrom
    rw [kk, hk]
    cases hf : fl k j
    · rw [hf] at h
      simp only [Bool.false_eq_true, if_false] at h ⊢
      simpa using rFrom_eq m (j + 1) st (by omega) hk h
    · rw [hf] at h
      simp only [if_true] at h ⊢
      obtain ⟨h1, t1⟩ := rFrom_eq m (j + 1) (rField l j st) (by omega) (by rw [rField_k]; exact hk) h
      obtain ⟨h2, t2⟩ := rField_eq hlt h1
      refine ⟨h2, ?_⟩
      rw [t1, t2, rFrom_keep m (j + 1) j _ (by omega) (by omega), List.append_assoc]

theorem rField_ok {l : List UInt8} {j : Nat} {st : Cm × Nat × Nat} (ok : st.1.Ok) : (rField l j st).1.Ok := by
  obtain ⟨o1, o2, o3, o4, o5, o6, o7⟩ := ok
  unfold rField
  split
  · exact ⟨(rNum_lt _ _ _ _).1, o2, o3, o4, o5, o6, o7⟩
  · exact ⟨o1, (rNum_lt _ _ _ _).1, o3, o4, o5, o6, o7⟩
  · exact ⟨o1, o2, (rNum_lt _ _ _ _).1, o4, o5, o6, o7⟩
  · exact ⟨o1, o2, o3, (rNum_lt _ _ _ _).1, o5, o6, o7⟩
  · have h1 := unzz_lt (rNum_lt l (rByte l st.2.1 st.2.2 18).2.1 (rByte l st.2.1 st.2.2 18).2.2 18446744073709551615).1
    exact ⟨o1, o2, o3, o4, (rNum_lt _ _ _ _).1, h1.1, h1.2⟩
  · exact ⟨o1, o2, o3, o4, o5, o6, o7⟩
  · exact ⟨o1, o2, o3, o4, o5, o6, o7⟩
theorem rFrom_ok {l : List UInt8} {k : Int} : ∀ (m j : Nat) (st : Cm × Nat × Nat), st.1.Ok → (rFrom l k m j st).1.Ok
  | 0, j, st, ok => ok
  | m + 1, j, st, ok => by
    unfold rFrom
    split
    · exact rFrom_ok m (j + 1) _ (rField_ok ok)
    · exact rFrom_ok m (j + 1) _ ok

/-- what is read whole is laid as the same bytes -/
theorem rCmd_only {l : List UInt8} (h : (rCmd l).2 = 0) : rightC (rCmd l).1 = true ∧ (rCmd l).1.Ok ∧ encB (rCmd l).1 = l := by
  unfold rCmd at h ⊢
  split at h
  · simp at h
  · rename_i hbig
    rw [if_neg hbig]
    simp only at h ⊢
    obtain ⟨r1, hr1⟩ : ∃ r1, rByte l 0 0 11 = r1 := ⟨_, rfl⟩
    have hq : (rByte l 0 0 11).2.2 = 0 → l.take (rByte l 0 0 11).2.1 = l.take 0 ++ [UInt8.ofNat (rByte l 0 0 11).1] := fun h => (rByte_eq h).2
    have hlt := (rByte_lt l 0 0 11).2.2
    rw [hr1] at h hq hlt ⊢
    obtain ⟨n1, a1, b1⟩ := r1
    simp only at h hq hlt ⊢
    obtain ⟨st, hst⟩ : ∃ st, rFrom l n1 7 0 ({ Cm.zero with k := (n1 : Int) }, a1, b1) = st := ⟨_, rfl⟩
    have hk := rFrom_k l n1 7 0 ({ Cm.zero with k := (n1 : Int) }, a1, b1)
    have he := rFrom_eq (l := l) (k := (n1 : Int)) 7 0 ({ Cm.zero with k := (n1 : Int) }, a1, b1) (by omega) rfl
    have ok : (rFrom l n1 7 0 ({ Cm.zero with k := (n1 : Int) }, a1, b1)).1.Ok := rFrom_ok 7 0 _ ⟨by simp [Cm.zero], by simp [Cm.zero], by simp [Cm.zero], by simp [Cm.zero], by simp [Cm.zero], by simp [Cm.zero], by simp [Cm.zero]⟩
    rw [hst] at h hk he ok ⊢
    obtain ⟨c3, a3, b3⟩ := st
    simp only at h hk he ok ⊢
    by_cases h1 : rEnd l a3 b3 = 0
    · cases hr : rightC c3
      · rw [hr] at h
        simp [h1] at h
      · rw [if_neg (show ¬ (rEnd l a3 b3 = 0 ∧ true = false) from fun h => absurd h.2 (by simp)), if_pos h1]
        refine ⟨hr, ok, ?_⟩
        unfold rEnd at h1
        have hb3 : b3 = 0 := by
          split at h1
          · omega
          · exact h1
        have ha3 : ¬ a3 < l.length := fun hlt' => by
          rw [if_pos ⟨hb3, hlt'⟩] at h1
          omega
        obtain ⟨hb1, t1⟩ := he hb3
        have t0 := hq hb1
        rw [List.take_of_length_le (by omega), t0] at t1
        unfold encB
        have e : ((n1 : Int) % 256).toNat = n1 := by omega
        rw [hk, e]
        simpa using t1.symm
    · simp [h1] at h
end Go.Proofs.Ytoghoddofokekaa
end

