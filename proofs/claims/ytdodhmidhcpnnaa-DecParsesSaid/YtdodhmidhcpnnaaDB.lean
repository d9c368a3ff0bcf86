/- Chapter 3, the document's: a decimal's text parsed. -/
import Derived.Test.YtdodhmidhcpnnaaDA
set_option linter.unusedVariables false
set_option linter.unusedSimpArgs false
set_option maxRecDepth 100000
namespace Go.Proofs.Ytdodhmidhcpnnaa
open Go.Abs

theorem parse_dec_nil (h : Heap) : call 50 [[.sc (.str [])]] h = some ([Dc 0 0, .sc (.int .i64 23)], h) := by
  obtain ⟨e', lp, g2, g4, g5, g6⟩ := point_loop (t := []) (hh := h ++ [⟨.var, dC 0 0⟩]) (t2 := [.sc (.ptr h.length 0 3)]) (t4 := [.sc (.str [])]) (by decide) 0 0 [(2, [.sc (.ptr h.length 0 3)]), (4, [.sc (.str [])]), (5, [.sc (.str [])]), (6, [.sc (.int .i64 0)]), (7, [.sc (.int .i64 0)])] rfl rfl rfl rfl rfl rfl
  have lp := loop_run lp
  have g6 : e'.get 6 = [.sc (.int .i64 0)] := g6
  have dw := fun h => spec74 h (l := []) (by decide)
  have d0 : digsB [] = false := rfl
  rw [d0] at dw
  refine callX rfl (by rfl : F 50 = some M.a50) (fun R RO RD RT E => ?_)
  have lp := E.run lp
  simp [M.a50, E.eqs, zero_dC, lp, g2, g4, g5, g6, dw, fldA, freshB, loadA, storeA, trim_pure, pureT, pureV, pureS]
theorem dparse_nil : dparseR [] = [Dc 0 0, .sc (.int .i64 23)] := dparse_bad (by decide)
theorem dparse_negnil : dparseR [45] = [Dc 0 0, .sc (.int .i64 23)] := dparse_bad (by decide)
theorem not45 {c : UInt8} (h : ¬ c = 45) : ¬ (c.toNat : Int) = 45 := by
  have := neq_nat h
  have z : (45 : UInt8).toNat = 45 := rfl
  rw [z] at this
  omega
theorem spec50 (h : Heap) {s : List UInt8} (hs : s.length < 140737488353280) : call 50 [[.sc (.str s)]] h = some (dparseR s, h) := by
  match s, hs with
  | [], _ => rw [dparse_nil]; exact parse_dec_nil h
  | c :: r, hs =>
    simp only [List.length_cons] at hs
    by_cases h45 : c = 45
    · subst h45
      obtain ⟨b1, b2⟩ := bare_neg r
      exact dparse_neg h (t := r) (c := 45) rfl rfl rfl (by omega) b2 b1
    · obtain ⟨b1, b2⟩ := bare_pos r h45
      exact dparse_pos h (t := c :: r) (c := c) rfl (not45 h45) (by simp only [List.length_cons]; omega) b2 b1

/-- where the point stands -/
def atI (t : List UInt8) : Int := if restT t = [] then -1 else ((wholeT t).length : Int)
theorem atI_46 (t : List UInt8) : atI (46 :: t) = 0 := by
  unfold atI
  have h1 : restT (46 :: t) = 46 :: t := rfl
  have h2 : wholeT (46 :: t) = [] := rfl
  rw [h1, h2, if_neg (by simp)]
  rfl
theorem atI_cons {b : UInt8} (t : List UInt8) (h : ¬ b = 46) : atI (b :: t) = if atI t = -1 then -1 else atI t + 1 := by
  unfold atI
  have h1 : restT (b :: t) = restT t := by unfold restT; rw [List.dropWhile_cons_of_pos (p := fun c => c != 46) (by simpa using h)]
  have h2 : wholeT (b :: t) = b :: wholeT t := by unfold wholeT; rw [List.takeWhile_cons_of_pos (p := fun c => c != 46) (by simpa using h)]
  rw [h1, h2]
  by_cases c : restT t = []
  · rw [if_pos c, if_pos c, if_pos rfl]
  · rw [if_neg c, if_neg c, if_neg (by omega)]
    simp
/-- the point behind the first k -/
def atK (t : List UInt8) (k : Nat) : Int := if atI (t.drop k) = -1 then -1 else k + atI (t.drop k)

theorem rpoint_loop {t : List UInt8} {hh : Heap} {t2 t4 : TV} (hl : t.length < 9223372036854775808) : ∀ (k : Nat) (e : Env), k ≤ t.length → e.get 0 = [.sc (.str t)] → e.get 2 = t2 → e.get 4 = t4 → e.get 5 = [.sc (.int .i64 (atK t k))] → e.get 6 = [.sc (.int .i64 ((k : Int) - 1))] →
    loopE F O (.loop [0, 2, 4, 5, 6] M.b51_2) e hh = some (.exit 0, [(0, [.sc (.str t)]), (2, t2), (4, t4), (5, [.sc (.int .i64 (atI t))]), (6, [.sc (.int .i64 (-1))]), (30, [.sc (.bool false)])], hh)
  | 0, e, hk, e0, e2, e4, e5, e6 => by
    have h0 : atK t 0 = atI t := by
      unfold atK
      rw [List.drop_zero]
      split
      · rename_i h; exact h.symm
      · simp
    rw [h0] at e5
    have e6' : e.get 6 = [.sc (.int .i64 (-1))] := by rw [e6]; rfl
    exact exitM fun R RO RD RT E => by simp [M.b51_2, E.eqs, e0, e2, e4, e5, e6']
  | k + 1, e, hk, e0, e2, e4, e5, e6 => by
    have hlt : k < t.length := by omega
    obtain ⟨b, hb, hd, _⟩ := drop_at hlt
    have e6' : e.get 6 = [.sc (.int .i64 (k : Int))] := by rw [e6]; congr 3; omega
    have c1 : (0 : Int) ≤ (k : Int) := by omega
    have w1 : IntKind.i64.wrap ((k : Int) - 1) = (k : Int) - 1 := wi64 (by omega) (by omega)
    by_cases h46 : b = 46
    · subst h46
      have ha : atK t k = (k : Int) := by
        unfold atK
        rw [hd, atI_46, if_neg (by decide)]
        omega
      have ih := rpoint_loop (t := t) (hh := hh) (t2 := t2) (t4 := t4) hl k [(0, [.sc (.str t)]), (2, t2), (4, t4), (5, [.sc (.int .i64 (k : Int))]), (6, [.sc (.int .i64 ((k : Int) - 1))])] (by omega) rfl rfl rfl (by rw [ha]; rfl) rfl
      exact stepM (fun R RO RD RT E => by simp [M.b51_2, E.eqs, e0, e2, e4, e5, e6', c1, hb, w1]) ih
    · have hbI : ¬ (b.toNat : Int) = 46 := by
        have := neq_nat h46
        have z : (46 : UInt8).toNat = 46 := rfl
        rw [z] at this
        omega
      have ha : atK t k = atK t (k + 1) := by
        unfold atK
        rw [hd, atI_cons _ h46]
        have hX : -1 ≤ atI (t.drop (k + 1)) := by unfold atI; split <;> omega
        generalize atI (t.drop (k + 1)) = X at *
        split <;> (try split) <;> (try split) <;> omega
      have ih := rpoint_loop (t := t) (hh := hh) (t2 := t2) (t4 := t4) hl k [(0, [.sc (.str t)]), (2, t2), (4, t4), (5, [.sc (.int .i64 (atK t (k + 1)))]), (6, [.sc (.int .i64 ((k : Int) - 1))])] (by omega) rfl rfl rfl (by rw [ha]; rfl) rfl
      refine stepM (fun R RO RD RT E => ?_) ih
      clear ih ha
      generalize atK t (k + 1) = av at *
      simp [M.b51_2, E.eqs, e0, e2, e4, e5, e6', c1, hb, hbI, w1]

theorem rdig_loop {t : List UInt8} {h : Heap} {X : Blk} {t4 t7 t8 : TV} {at_ : Nat} (hl : t.length < 9223372036854775808) : ∀ (m k : Nat) (e : Env), k + m = t.length → e.get 0 = [.sc (.str t)] → e.get 2 = [.sc (.ptr h.length 0 3)] → e.get 4 = t4 → e.get 5 = [.sc (.int .i64 at_)] → e.get 7 = t7 → e.get 8 = t8 → e.get 11 = [.sc (.int .i64 k)] →
    ∃ e' : Env, loopE F O (.loop [0, 2, 4, 5, 7, 8, 11] M.b51_1) e (h ++ [⟨.var, dC 0 0⟩, X]) = some (if (t.drop k).all isDig then (.exit 2, e', h ++ [⟨.var, dC 0 0⟩, X]) else (.ret, [(2, [.sc (.ptr h.length 0 3)]), (3, [.sc (.int .i64 23)])], h ++ [⟨.var, dC 0 0⟩, X])) ∧ e'.get 0 = [.sc (.str t)] ∧ e'.get 2 = [.sc (.ptr h.length 0 3)] ∧ e'.get 4 = t4 ∧ e'.get 5 = [.sc (.int .i64 at_)] ∧ e'.get 7 = t7 ∧ e'.get 8 = t8
  | 0, k, e, hk, e0, e2, e4, e5, e7, e8, e11 => by
    have : k = t.length := by omega
    subst this
    rw [List.drop_length]
    refine ⟨[(0, [.sc (.str t)]), (2, [.sc (.ptr h.length 0 3)]), (4, t4), (5, [.sc (.int .i64 at_)]), (7, t7), (8, t8), (11, [.sc (.int .i64 t.length)]), (73, [.sc (.bool false)])], exitM fun R RO RD RT E => ?_, rfl, rfl, rfl, rfl, rfl, rfl⟩
    simp [M.b51_1, E.eqs, e0, e2, e4, e5, e7, e8, e11]
  | m + 1, k, e, hk, e0, e2, e4, e5, e7, e8, e11 => by
    have hlt : k < t.length := by omega
    obtain ⟨b, hb, hd, _⟩ := drop_at hlt
    have c1 : (k : Int) < t.length := by omega
    have c0 : (0 : Int) ≤ (at_ : Int) := by omega
    have w1 : IntKind.i64.wrap ((k : Int) + 1) = (k : Int) + 1 := wi64 (by omega) (by omega)
    rw [hd, List.all_cons]
    rcases dig_cases b with ⟨u, u1, u2⟩ | ⟨u, u1⟩ | ⟨u, u1, u2⟩
    · rw [u, Bool.true_and]
      obtain ⟨e', ih, f⟩ := rdig_loop (t := t) (h := h) (X := X) (t4 := t4) (t7 := t7) (t8 := t8) (at_ := at_) hl m (k + 1) [(0, [.sc (.str t)]), (2, [.sc (.ptr h.length 0 3)]), (4, t4), (5, [.sc (.int .i64 at_)]), (7, t7), (8, t8), (11, [.sc (.int .i64 ((k + 1 : Nat) : Int))])] (by omega) rfl rfl rfl rfl rfl rfl rfl
      refine ⟨e', stepM (fun R RO RD RT E => ?_) ih, f⟩
      clear ih f
      simp [M.b51_1, E.eqs, e0, e2, e4, e5, e7, e8, e11, c0, c1, hb, u1, u2, w1]
    · rw [u]
      simp only [Bool.false_and, Bool.false_eq_true, if_false]
      refine ⟨[(0, [.sc (.str t)]), (2, [.sc (.ptr h.length 0 3)]), (4, t4), (5, [.sc (.int .i64 at_)]), (7, t7), (8, t8)], retM fun R RO RD RT E => ?_, rfl, rfl, rfl, rfl, rfl, rfl⟩
      simp [M.b51_1, E.eqs, zero_dC, e0, e2, e4, e5, e7, e8, e11, c0, c1, hb, u1, storeA]
    · rw [u]
      simp only [Bool.false_and, Bool.false_eq_true, if_false]
      refine ⟨[(0, [.sc (.str t)]), (2, [.sc (.ptr h.length 0 3)]), (4, t4), (5, [.sc (.int .i64 at_)]), (7, t7), (8, t8)], retM fun R RO RD RT E => ?_, rfl, rfl, rfl, rfl, rfl, rfl⟩
      simp [M.b51_1, E.eqs, zero_dC, e0, e2, e4, e5, e7, e8, e11, c0, c1, hb, u1, u2, storeA]
theorem rdig_none {t : List UInt8} {hh : Heap} {t2 t4 t7 t8 t11 : TV} {e : Env} (e0 : e.get 0 = [.sc (.str t)]) (e2 : e.get 2 = t2) (e4 : e.get 4 = t4) (e5 : e.get 5 = [.sc (.int .i64 (-1))]) (e7 : e.get 7 = t7) (e8 : e.get 8 = t8) (e11 : e.get 11 = t11) :
    loopE F O (.loop [0, 2, 4, 5, 7, 8, 11] M.b51_1) e hh = some (.exit 2, [(0, [.sc (.str t)]), (2, t2), (4, t4), (5, [.sc (.int .i64 (-1))]), (7, t7), (8, t8), (11, t11), (73, [.sc (.bool false)])], hh) :=
  exitM fun R RO RD RT E => by simp [M.b51_1, E.eqs, e0, e2, e4, e5, e7, e8, e11]

theorem rstrip_loop {hh : Heap} {t2 t4 t8 : TV} : ∀ (l : List UInt8) (e : Env), e.get 2 = t2 → e.get 4 = t4 → e.get 8 = t8 → e.get 12 = [.sc (.str l)] →
    loopE F O (.loop [2, 4, 8, 12] M.b51_0) e hh = some (.exit 4, [(2, t2), (4, t4), (8, t8), (12, [.sc (.str (stripT l))]), (103, [.sc (.bool false)])], hh)
  | [], e, e2, e4, e8, e12 => exitM fun R RO RD RT E => by simp [M.b51_0, E.eqs, e2, e4, e8, e12, stripT]
  | [a], e, e2, e4, e8, e12 => exitM fun R RO RD RT E => by simp [M.b51_0, E.eqs, e2, e4, e8, e12, stripT]
  | a :: b :: l, e, e2, e4, e8, e12 => by
    have c1 : (1 : Int) < (l.length : Int) + 1 + 1 := by omega
    by_cases ha : a = 48
    · subst ha
      have e1 : stripT (48 :: b :: l) = stripT (b :: l) := by rw [stripT, if_pos rfl]
      rw [e1]
      have ih := rstrip_loop (hh := hh) (t2 := t2) (t4 := t4) (t8 := t8) (b :: l) [(2, t2), (4, t4), (8, t8), (12, [.sc (.str (b :: l))])] rfl rfl rfl rfl
      exact stepM (fun R RO RD RT E => by simp [M.b51_0, E.eqs, e2, e4, e8, e12, c1]) ih
    · have e1 : stripT (a :: b :: l) = a :: b :: l := by rw [stripT, if_neg ha]
      have haI : ¬ (a.toNat : Int) = 48 := by
        have := neq_nat ha
        have z : (48 : UInt8).toNat = 48 := rfl
        rw [z] at this
        omega
      rw [e1]
      exact exitM fun R RO RD RT E => by simp [M.b51_0, E.eqs, e2, e4, e8, e12, c1, haI]

theorem okD_digT {t : List UInt8} (hok : okT t = true) (neg : Bool) (s : Int) : okD (sg neg (digT t)) s = okD (sg neg (valT t)) s := by
  have h0 := hok
  unfold okT at hok
  simp only [Bool.and_eq_true, decide_eq_true_eq] at hok
  unfold digT
  rw [if_pos h0]
  by_cases h60 : 60 < t.length
  · rw [if_pos h60]
    have hv := valT_long hok.2 hok.1 (by omega)
    have h10 : 10 ^ 60 ≤ valT t := Nat.le_trans (Nat.pow_le_pow_right (by decide) (by omega)) hv
    have e10 : (10 : Nat) ^ 60 = 1000000000000000000000000000000000000000000000000000000000000 := by decide
    rw [e10] at h10
    generalize valT t = v at *
    rw [okD_out (by unfold sg InW; cases neg <;> simp), okD_out (by unfold sg InW; cases neg <;> simp <;> omega)]
  · rw [if_neg h60]

set_option maxHeartbeats 4000000 in
theorem rparse_neg (h : Heap) {s t : List UInt8} {c : UInt8} (hs : s[0]? = some c) (hc : (c.toNat : Int) = 45) (ht : s.tail = t) (hl : t.length < 140737488353280) (hneg : negT s = true) (hbare : bareT s = t) : call 51 [[.sc (.str s)]] h = some (dparseR s, h) := by
  have f1 : 0 < s.length := (List.getElem?_eq_some_iff.1 hs).1
  have f2 : 1 ≤ s.length := f1
  have f0 : ∀ hh, s[0]'hh = c := fun hh => by rw [List.getElem?_eq_getElem hh] at hs; injection hs
  have f3 : List.take (s.length - 1) t = t := by rw [← ht, ← List.length_tail, List.take_length]
  have f4 : (0 : Int) < s.length := by omega
  have lp := loop_run (rpoint_loop (t := t) (hh := h ++ [⟨.var, dC 0 0⟩]) (t2 := [.sc (.ptr h.length 0 3)]) (t4 := [.sc (.bool true)]) (by omega) t.length [(0, [.sc (.str t)]), (2, [.sc (.ptr h.length 0 3)]), (4, [.sc (.bool true)]), (5, [.sc (.int .i64 (-1))]), (6, [.sc (.int .i64 ((t.length : Int) - 1))])] (Nat.le_refl _) rfl rfl rfl (by unfold atK; rw [List.drop_length]; rfl) rfl)
  have wl : IntKind.i64.wrap ((t.length : Int) - 1) = (t.length : Int) - 1 := wi64 (by omega) (by omega)
  obtain ⟨w, hw⟩ : ∃ w, w = wholeT t := ⟨_, rfl⟩
  obtain ⟨p, hp⟩ : ∃ p, p = partT t := ⟨_, rfl⟩
  have rf := rest_form t
  rw [← hw] at rf
  rw [← hp] at rf
  have dokI : decOk s ↔ okT w = true ∧ (restT t = [] ∨ (p ≠ [] ∧ p.all isDig = true ∧ p.length ≤ 18)) ∧ ¬ (true = true ∧ stripT (w ++ p) = [48]) := by
    unfold decOk allT
    rw [hneg, hbare, ← hw, ← hp]
  have good : decOk s → dparseR s = okD (sg true (valT (stripT (w ++ p)))) p.length := fun hh => by
    rw [dparse_good hh, hneg, hbare]
    unfold allT
    rw [← hw, ← hp]
  have bad : ¬ decOk s → dparseR s = [Dc 0 0, .sc (.int .i64 23)] := dparse_bad
  have hwl : w.length ≤ t.length := by rw [hw]; exact List.Sublist.length_le (List.takeWhile_sublist _)
  have hpl : p.length ≤ t.length := by
    rw [hp]
    unfold partT restT
    rw [List.length_tail]
    have := List.Sublist.length_le (List.dropWhile_sublist (l := t) (fun c : UInt8 => c != 46))
    omega
  have hwp : w.length + p.length ≤ t.length := by
    have h1 := congrArg List.length (List.takeWhile_append_dropWhile (p := fun c : UInt8 => c != 46) (l := t))
    rw [List.length_append] at h1
    rw [hw, hp]
    unfold wholeT partT restT
    rw [List.length_tail]
    omega
  have dw := fun h => spec76 h (t := w) (by omega)
  have sl := fun t8 => loop_run (rstrip_loop (hh := h ++ [⟨.var, dC 0 0⟩, ⟨.var, digC (digT w)⟩]) (t2 := [.sc (.ptr h.length 0 3)]) (t4 := [.sc (.bool true)]) (t8 := t8) (w ++ p) [(2, [.sc (.ptr h.length 0 3)]), (4, [.sc (.bool true)]), (8, t8), (12, [.sc (.str (w ++ p))])] rfl rfl rfl rfl)
  have slA := loop_run (rstrip_loop (hh := h ++ [⟨.var, dC 0 0⟩, ⟨.var, digC (digT w)⟩]) (t2 := [.sc (.ptr h.length 0 3)]) (t4 := [.sc (.bool true)]) (t8 := [.sc (.int .i64 0)]) (w ++ p) [(0, [.sc (.str w)]), (2, [.sc (.ptr h.length 0 3)]), (4, [.sc (.bool true)]), (5, [.sc (.int .i64 (-1))]), (7, [.sc (.str w)]), (8, [.sc (.int .i64 0)]), (12, [.sc (.str (w ++ p))]), (89, [.sc (.bool false)])] rfl rfl rfl rfl)
  have lim1 : w.length + p.length ≤ lim := by simp [lim]; omega
  obtain ⟨sq1, sq2, sq3, sq4⟩ := strip_eq (w ++ p)
  have sno := strip_noNought (w ++ p)
  have stl : (stripT (w ++ p)).length ≤ w.length + p.length := by rw [List.length_append] at sq1; exact sq1
  have dq := fun h => spec76 h (t := stripT (w ++ p)) (by omega)
  have Db := digT_big (stripT (w ++ p))
  have zq := fun h => spec77 h (a := digT (stripT (w ++ p))) (Nat.lt_of_lt_of_le Db (by decide))
  have mk := big_mk (sg_neg true (digT (stripT (w ++ p)))) (sg_abs _ _)
  have dd := fun (s : Int) h => spec56 h s (InB.sg (c := true) Db)
  have hp' := hp
  have hw' := hw
  clear hp sq1 sq2 stl Db
  refine callX rfl (by rfl : F 51 = some M.a51) (fun R RO RD RT E => ?_)
  have lp := E.run lp
  have sl := fun t9 => E.run (sl t9)
  have slA := E.run slA
  rcases rf with ⟨r1, r2⟩ | ⟨r1, r2⟩
  · subst r2
    have hp0 : p = [] := by rw [hp']; unfold partT; rw [r1]; rfl
    subst hp0
    have at0 : atI w = -1 := by unfold atI; rw [if_pos r1]
    rw [at0] at lp
    have r0l := E.run (loop_run (rdig_none (t := w) (hh := h ++ [⟨.var, dC 0 0⟩, ⟨.var, digC (digT w)⟩]) (t2 := [.sc (.ptr h.length 0 3)]) (t4 := [.sc (.bool true)]) (t7 := [.sc (.str w)]) (t8 := [.sc (.int .i64 0)]) (t11 := [.sc (.int .i64 0)]) (e := [(0, [.sc (.str w)]), (2, [.sc (.ptr h.length 0 3)]), (4, [.sc (.bool true)]), (5, [.sc (.int .i64 (-1))]), (7, [.sc (.str w)]), (8, [.sc (.int .i64 0)]), (11, [.sc (.int .i64 0)])]) rfl rfl rfl rfl rfl rfl rfl))
    have wz : IntKind.i64.wrap 0 = 0 := wi64 (by omega) (by omega)
    have pok : restT w = [] ∨ (([] : List UInt8) ≠ [] ∧ ([] : List UInt8).all isDig = true ∧ ([] : List UInt8).length ≤ 18) := .inl r1
    have e0 : w ++ [] = w := List.append_nil w
    rw [e0] at dokI good sq3 sq4 sno dq zq mk dd sl slA
    by_cases okw : okT w = true
    · rw [okw] at dw
      obtain ⟨w1, w2⟩ := (okT_iff w).1 okw
      have qok : okT (stripT w) = true := (okT_iff _).2 ⟨sno w1.1, sq4 w2⟩
      rw [qok] at dq
      clear hw hw' hp'
      have zl : ((([] : List UInt8).length : Nat) : Int) = 0 := rfl
      rw [zl] at good

      have hz0 := digT_zero qok
      by_cases hz : true = true ∧ stripT w = [48]
      · rw [bad (fun hh => (dokI.1 hh).2.2 hz)]
        rw [decide_eq_true (hz0.2 hz.2)] at zq
        generalize digT (stripT w) = D at *
        generalize stripT w = q at *
        simp [M.a51, E.eqs, zero_dC, zeros_digC, zeros_big, hs, hc, f0, f1, f2, f3, f4, ht, lp, wl, wz, dw, r0l, sl, slA, dq, zq, fldA, freshB, loadA, storeA, trim_pure, pureT, pureV, pureS]
      · rw [good (dokI.2 ⟨okw, pok, hz⟩)]
        have eqd := okD_digT qok true (0 : Int)
        rw [← eqd]
        have hD : ¬ digT (stripT w) = 0 := fun e => hz ⟨rfl, hz0.1 e⟩
        rw [decide_eq_false hD] at zq mk
        simp only [Bool.not_false, Bool.and_self] at mk
        have dd := dd (0 : Int)
        clear eqd good bad dokI hz0 hz
        generalize sg true (digT (stripT w)) = res at *
        generalize digT (stripT w) = D at *
        generalize stripT w = q at *
        unfold okD at dd ⊢
        generalize okC res = z1 at *
        generalize (if InW res then _ else (0 : Int)) = z2 at *
        generalize okE res = z3 at *
        simp [M.a51, E.eqs, zero_dC, zeros_digC, zeros_big, hs, hc, f0, f1, f2, f3, f4, ht, lp, wl, wz, dw, r0l, sl, slA, dq, zq, mk, dd, fldA, freshB, loadA, storeA, trim_pure, pureT, pureV, pureS]

    · rw [bad (fun hh => okw (dokI.1 hh).1)]
      have okw : okT w = false := by simpa using okw
      rw [okw] at dw
      generalize digT w = dv at *
      simp [M.a51, E.eqs, zero_dC, zeros_digC, hs, hc, f0, f1, f2, f3, f4, ht, lp, wl, wz, dw, fldA, freshB, loadA, storeA, trim_pure, pureT, pureV, pureS]
  · obtain ⟨a1, ha1⟩ : ∃ a1, a1 = w.length + 1 := ⟨_, rfl⟩
    have htl : t.length = w.length + (p.length + 1) := by rw [r2, List.length_append, List.length_cons]
    have c0 : (0 : Int) ≤ (w.length : Int) := by omega
    have c3 : w.length ≤ t.length := by omega
    have tkB : List.take w.length t = w := by rw [r2]; exact List.take_left' rfl
    have w1B : IntKind.i64.wrap ((w.length : Int) + 1) = (a1 : Int) := by rw [wi64 (by omega) (by omega)]; omega
    obtain ⟨x1, hx1⟩ : ∃ x1, x1 = t.length - w.length := ⟨_, rfl⟩
    have w2B : IntKind.i64.wrap ((t.length : Int) - w.length) = (x1 : Int) := by rw [wi64 (by omega) (by omega)]; omega
    have w3B : IntKind.i64.wrap ((x1 : Int) - 1) = (p.length : Int) := by rw [wi64 (by omega) (by omega)]; omega
    have a1l : a1 ≤ t.length := by omega
    have dp2 : List.drop a1 t = p := by
      rw [ha1, r2, ← List.drop_drop, List.drop_left' rfl]
      rfl
    have drB : List.take (t.length - a1) (List.drop a1 t) = p := by
      have e1 : t.length - a1 = p.length := by omega
      rw [e1, dp2, List.take_length]
    have rne : ¬ restT t = [] := by rw [r1]; simp
    have at0 : atI t = (w.length : Int) := by unfold atI; rw [if_neg rne, ← hw]
    rw [at0] at lp
    clear hw hw' hp'
    by_cases h18 : p ≠ [] ∧ p.length ≤ 18
    · have p0 : ¬ (p.length : Int) = 0 := by have := List.length_pos_iff.2 h18.1; omega
      have p0' : ¬ p.length = 0 := by omega
      have p0'' : ¬ p = [] := h18.1
      have c18 : ¬ (18 : Int) < p.length := by omega
      have c18' : ¬ 18 < p.length := by omega
      by_cases okw : okT w = true
      · rw [okw] at dw
        obtain ⟨w1, w2⟩ := (okT_iff w).1 okw
        obtain ⟨e', r0l, g0, g2, g4, g5, g7, g8⟩ := rdig_loop (t := t) (h := h) (X := ⟨.var, digC (digT w)⟩) (t4 := [.sc (.bool true)]) (t7 := [.sc (.str w)]) (t8 := [.sc (.int .i64 p.length)]) (at_ := w.length) (by omega) (t.length - a1) a1 [(0, [.sc (.str t)]), (2, [.sc (.ptr h.length 0 3)]), (4, [.sc (.bool true)]), (5, [.sc (.int .i64 w.length)]), (7, [.sc (.str w)]), (8, [.sc (.int .i64 p.length)]), (11, [.sc (.int .i64 a1)])] (by omega) rfl rfl rfl rfl rfl rfl rfl
        have r0l := E.run (loop_run r0l)
        rw [dp2] at r0l
        by_cases hpd : p.all isDig = true
        · rw [if_pos hpd] at r0l
          have pok : restT t = [] ∨ (p ≠ [] ∧ p.all isDig = true ∧ p.length ≤ 18) := .inr ⟨h18.1, hpd, h18.2⟩
          have hne : (w ++ p) ≠ [] := fun e => w1.1 (List.append_eq_nil_iff.1 e).1
          have hdig : (w ++ p).all isDig = true := by rw [List.all_append, w2, hpd]; rfl
          have qok : okT (stripT (w ++ p)) = true := (okT_iff _).2 ⟨sno hne, sq4 hdig⟩
          rw [qok] at dq

          have hz0 := digT_zero qok
          by_cases hz : true = true ∧ stripT (w ++ p) = [48]
          · rw [bad (fun hh => (dokI.1 hh).2.2 hz)]
            rw [decide_eq_true (hz0.2 hz.2)] at zq
            generalize digT (stripT (w ++ p)) = D at *
            generalize stripT (w ++ p) = q at *
            simp [M.a51, E.eqs, zero_dC, zeros_digC, zeros_big, hs, hc, f0, f1, f2, f3, f4, ht, lp, wl, dw, at0, c0, c3, tkB, w1B, w2B, w3B, a1l, drB, p0, p0', p0'', c18, c18', r0l, g0, g2, g4, g5, g7, g8, lim1, sl, slA, dq, zq, fldA, freshB, loadA, storeA, trim_pure, pureT, pureV, pureS]
          · rw [good (dokI.2 ⟨okw, pok, hz⟩)]
            have eqd := okD_digT qok true (p.length : Int)
            rw [← eqd]
            have hD : ¬ digT (stripT (w ++ p)) = 0 := fun e => hz ⟨rfl, hz0.1 e⟩
            rw [decide_eq_false hD] at zq mk
            simp only [Bool.not_false, Bool.and_self] at mk
            have dd := dd (p.length : Int)
            clear eqd good bad dokI hz0 hz
            generalize sg true (digT (stripT (w ++ p))) = res at *
            generalize digT (stripT (w ++ p)) = D at *
            generalize stripT (w ++ p) = q at *
            unfold okD at dd ⊢
            generalize okC res = z1 at *
            generalize (if InW res then _ else (0 : Int)) = z2 at *
            generalize okE res = z3 at *
            simp [M.a51, E.eqs, zero_dC, zeros_digC, zeros_big, hs, hc, f0, f1, f2, f3, f4, ht, lp, wl, dw, at0, c0, c3, tkB, w1B, w2B, w3B, a1l, drB, p0, p0', p0'', c18, c18', r0l, g0, g2, g4, g5, g7, g8, lim1, sl, slA, dq, zq, mk, dd, fldA, freshB, loadA, storeA, trim_pure, pureT, pureV, pureS]

        · rw [if_neg hpd] at r0l
          rw [bad (fun hh => (dokI.1 hh).2.1.elim rne fun q => hpd q.2.1)]
          generalize digT w = dv at *
          simp [M.a51, E.eqs, zero_dC, zeros_digC, hs, hc, f0, f1, f2, f3, f4, ht, lp, wl, dw, at0, c0, c3, tkB, w1B, w2B, w3B, a1l, drB, p0, p0', p0'', c18, c18', r0l, fldA, freshB, loadA, storeA, trim_pure, pureT, pureV, pureS]
      · rw [bad (fun hh => okw (dokI.1 hh).1)]
        have okw : okT w = false := by simpa using okw
        rw [okw] at dw
        generalize digT w = dv at *
        simp [M.a51, E.eqs, zero_dC, zeros_digC, hs, hc, f0, f1, f2, f3, f4, ht, lp, wl, dw, at0, c0, c3, tkB, w1B, w2B, w3B, a1l, drB, p0, p0', p0'', c18, c18', fldA, freshB, loadA, storeA, trim_pure, pureT, pureV, pureS]
    · rw [bad (fun hh => (dokI.1 hh).2.1.elim rne fun q => h18 ⟨q.1, q.2.2⟩)]
      by_cases p0 : p = []
      · have p0' : (p.length : Int) = 0 := by rw [p0]; rfl
        simp [M.a51, E.eqs, zero_dC, zeros_digC, hs, hc, f0, f1, f2, f3, f4, ht, lp, wl, c0, c3, tkB, w1B, w2B, w3B, p0, p0', fldA, freshB, loadA, storeA, trim_pure, pureT, pureV, pureS]
      · have p1 : ¬ (p.length : Int) = 0 := by have := List.length_pos_iff.2 p0; omega
        have c18 : (18 : Int) < p.length := by
          have : ¬ p.length ≤ 18 := fun q => h18 ⟨p0, q⟩
          omega
        have c18' : 18 < p.length := by omega
        simp [M.a51, E.eqs, zero_dC, zeros_digC, hs, hc, f0, f1, f2, f3, f4, ht, lp, wl, c0, c3, tkB, w1B, w2B, w3B, p0, p1, c18, c18', fldA, freshB, loadA, storeA, trim_pure, pureT, pureV, pureS]

set_option maxHeartbeats 4000000 in
theorem rparse_pos (h : Heap) {t : List UInt8} {c : UInt8} (hs : t[0]? = some c) (hc : ¬ (c.toNat : Int) = 45) (hl : t.length < 140737488353280) (hneg : negT t = false) (hbare : bareT t = t) : call 51 [[.sc (.str t)]] h = some (dparseR t, h) := by
  have f1 : 0 < t.length := (List.getElem?_eq_some_iff.1 hs).1
  have f0 : ∀ hh, t[0]'hh = c := fun hh => by rw [List.getElem?_eq_getElem hh] at hs; injection hs
  have f4 : (0 : Int) < t.length := by omega
  have lp := loop_run (rpoint_loop (t := t) (hh := h ++ [⟨.var, dC 0 0⟩]) (t2 := [.sc (.ptr h.length 0 3)]) (t4 := [.sc (.bool false)]) (by omega) t.length [(0, [.sc (.str t)]), (2, [.sc (.ptr h.length 0 3)]), (4, [.sc (.bool false)]), (5, [.sc (.int .i64 (-1))]), (6, [.sc (.int .i64 ((t.length : Int) - 1))])] (Nat.le_refl _) rfl rfl rfl (by unfold atK; rw [List.drop_length]; rfl) rfl)
  have wl : IntKind.i64.wrap ((t.length : Int) - 1) = (t.length : Int) - 1 := wi64 (by omega) (by omega)
  obtain ⟨w, hw⟩ : ∃ w, w = wholeT t := ⟨_, rfl⟩
  obtain ⟨p, hp⟩ : ∃ p, p = partT t := ⟨_, rfl⟩
  have rf := rest_form t
  rw [← hw] at rf
  rw [← hp] at rf
  have dokI : decOk t ↔ okT w = true ∧ (restT t = [] ∨ (p ≠ [] ∧ p.all isDig = true ∧ p.length ≤ 18)) ∧ ¬ (false = true ∧ stripT (w ++ p) = [48]) := by
    unfold decOk allT
    rw [hneg, hbare, ← hw, ← hp]
  have good : decOk t → dparseR t = okD (sg false (valT (stripT (w ++ p)))) p.length := fun hh => by
    rw [dparse_good hh, hneg, hbare]
    unfold allT
    rw [← hw, ← hp]
  have bad : ¬ decOk t → dparseR t = [Dc 0 0, .sc (.int .i64 23)] := dparse_bad
  have hwl : w.length ≤ t.length := by rw [hw]; exact List.Sublist.length_le (List.takeWhile_sublist _)
  have hpl : p.length ≤ t.length := by
    rw [hp]
    unfold partT restT
    rw [List.length_tail]
    have := List.Sublist.length_le (List.dropWhile_sublist (l := t) (fun c : UInt8 => c != 46))
    omega
  have hwp : w.length + p.length ≤ t.length := by
    have h1 := congrArg List.length (List.takeWhile_append_dropWhile (p := fun c : UInt8 => c != 46) (l := t))
    rw [List.length_append] at h1
    rw [hw, hp]
    unfold wholeT partT restT
    rw [List.length_tail]
    omega
  have dw := fun h => spec76 h (t := w) (by omega)
  have sl := fun t8 => loop_run (rstrip_loop (hh := h ++ [⟨.var, dC 0 0⟩, ⟨.var, digC (digT w)⟩]) (t2 := [.sc (.ptr h.length 0 3)]) (t4 := [.sc (.bool false)]) (t8 := t8) (w ++ p) [(2, [.sc (.ptr h.length 0 3)]), (4, [.sc (.bool false)]), (8, t8), (12, [.sc (.str (w ++ p))])] rfl rfl rfl rfl)
  have slA := loop_run (rstrip_loop (hh := h ++ [⟨.var, dC 0 0⟩, ⟨.var, digC (digT w)⟩]) (t2 := [.sc (.ptr h.length 0 3)]) (t4 := [.sc (.bool false)]) (t8 := [.sc (.int .i64 0)]) (w ++ p) [(0, [.sc (.str w)]), (2, [.sc (.ptr h.length 0 3)]), (4, [.sc (.bool false)]), (5, [.sc (.int .i64 (-1))]), (7, [.sc (.str w)]), (8, [.sc (.int .i64 0)]), (12, [.sc (.str (w ++ p))]), (89, [.sc (.bool false)])] rfl rfl rfl rfl)
  have lim1 : w.length + p.length ≤ lim := by simp [lim]; omega
  obtain ⟨sq1, sq2, sq3, sq4⟩ := strip_eq (w ++ p)
  have sno := strip_noNought (w ++ p)
  have stl : (stripT (w ++ p)).length ≤ w.length + p.length := by rw [List.length_append] at sq1; exact sq1
  have dq := fun h => spec76 h (t := stripT (w ++ p)) (by omega)
  have Db := digT_big (stripT (w ++ p))
  have zq := fun h => spec77 h (a := digT (stripT (w ++ p))) (Nat.lt_of_lt_of_le Db (by decide))
  have mk := big_mk (sg_neg false (digT (stripT (w ++ p)))) (sg_abs _ _)
  have dd := fun (s : Int) h => spec56 h s (InB.sg (c := false) Db)
  have hp' := hp
  have hw' := hw
  clear hp sq1 sq2 stl Db
  refine callX rfl (by rfl : F 51 = some M.a51) (fun R RO RD RT E => ?_)
  have lp := E.run lp
  have sl := fun t9 => E.run (sl t9)
  have slA := E.run slA
  rcases rf with ⟨r1, r2⟩ | ⟨r1, r2⟩
  · subst r2
    have hp0 : p = [] := by rw [hp']; unfold partT; rw [r1]; rfl
    subst hp0
    have at0 : atI w = -1 := by unfold atI; rw [if_pos r1]
    rw [at0] at lp
    have r0l := E.run (loop_run (rdig_none (t := w) (hh := h ++ [⟨.var, dC 0 0⟩, ⟨.var, digC (digT w)⟩]) (t2 := [.sc (.ptr h.length 0 3)]) (t4 := [.sc (.bool false)]) (t7 := [.sc (.str w)]) (t8 := [.sc (.int .i64 0)]) (t11 := [.sc (.int .i64 0)]) (e := [(0, [.sc (.str w)]), (2, [.sc (.ptr h.length 0 3)]), (4, [.sc (.bool false)]), (5, [.sc (.int .i64 (-1))]), (7, [.sc (.str w)]), (8, [.sc (.int .i64 0)]), (11, [.sc (.int .i64 0)])]) rfl rfl rfl rfl rfl rfl rfl))
    have wz : IntKind.i64.wrap 0 = 0 := wi64 (by omega) (by omega)
    have pok : restT w = [] ∨ (([] : List UInt8) ≠ [] ∧ ([] : List UInt8).all isDig = true ∧ ([] : List UInt8).length ≤ 18) := .inl r1
    have e0 : w ++ [] = w := List.append_nil w
    rw [e0] at dokI good sq3 sq4 sno dq zq mk dd sl slA
    by_cases okw : okT w = true
    · rw [okw] at dw
      obtain ⟨w1, w2⟩ := (okT_iff w).1 okw
      have qok : okT (stripT w) = true := (okT_iff _).2 ⟨sno w1.1, sq4 w2⟩
      rw [qok] at dq
      clear hw hw' hp'
      have zl : ((([] : List UInt8).length : Nat) : Int) = 0 := rfl
      rw [zl] at good

      have hz0 := digT_zero qok
      by_cases hz : false = true ∧ stripT w = [48]
      · exact absurd hz.1 (by decide)
      · rw [good (dokI.2 ⟨okw, pok, hz⟩)]
        have eqd := okD_digT qok false (0 : Int)
        rw [← eqd]
        simp only [Bool.false_and] at mk
        have dd := dd (0 : Int)
        clear eqd good bad dokI hz0 hz
        generalize sg false (digT (stripT w)) = res at *
        generalize digT (stripT w) = D at *
        generalize stripT w = q at *
        unfold okD at dd ⊢
        generalize okC res = z1 at *
        generalize (if InW res then _ else (0 : Int)) = z2 at *
        generalize okE res = z3 at *
        simp [M.a51, E.eqs, zero_dC, zeros_digC, zeros_big, hs, hc, f0, f1, f4, lp, wl, wz, dw, r0l, sl, slA, dq, zq, mk, dd, fldA, freshB, loadA, storeA, trim_pure, pureT, pureV, pureS]

    · rw [bad (fun hh => okw (dokI.1 hh).1)]
      have okw : okT w = false := by simpa using okw
      rw [okw] at dw
      generalize digT w = dv at *
      simp [M.a51, E.eqs, zero_dC, zeros_digC, hs, hc, f0, f1, f4, lp, wl, wz, dw, fldA, freshB, loadA, storeA, trim_pure, pureT, pureV, pureS]
  · obtain ⟨a1, ha1⟩ : ∃ a1, a1 = w.length + 1 := ⟨_, rfl⟩
    have htl : t.length = w.length + (p.length + 1) := by rw [r2, List.length_append, List.length_cons]
    have c0 : (0 : Int) ≤ (w.length : Int) := by omega
    have c3 : w.length ≤ t.length := by omega
    have tkB : List.take w.length t = w := by rw [r2]; exact List.take_left' rfl
    have w1B : IntKind.i64.wrap ((w.length : Int) + 1) = (a1 : Int) := by rw [wi64 (by omega) (by omega)]; omega
    obtain ⟨x1, hx1⟩ : ∃ x1, x1 = t.length - w.length := ⟨_, rfl⟩
    have w2B : IntKind.i64.wrap ((t.length : Int) - w.length) = (x1 : Int) := by rw [wi64 (by omega) (by omega)]; omega
    have w3B : IntKind.i64.wrap ((x1 : Int) - 1) = (p.length : Int) := by rw [wi64 (by omega) (by omega)]; omega
    have a1l : a1 ≤ t.length := by omega
    have dp2 : List.drop a1 t = p := by
      rw [ha1, r2, ← List.drop_drop, List.drop_left' rfl]
      rfl
    have drB : List.take (t.length - a1) (List.drop a1 t) = p := by
      have e1 : t.length - a1 = p.length := by omega
      rw [e1, dp2, List.take_length]
    have rne : ¬ restT t = [] := by rw [r1]; simp
    have at0 : atI t = (w.length : Int) := by unfold atI; rw [if_neg rne, ← hw]
    rw [at0] at lp
    clear hw hw' hp'
    by_cases h18 : p ≠ [] ∧ p.length ≤ 18
    · have p0 : ¬ (p.length : Int) = 0 := by have := List.length_pos_iff.2 h18.1; omega
      have p0' : ¬ p.length = 0 := by omega
      have p0'' : ¬ p = [] := h18.1
      have c18 : ¬ (18 : Int) < p.length := by omega
      have c18' : ¬ 18 < p.length := by omega
      by_cases okw : okT w = true
      · rw [okw] at dw
        obtain ⟨w1, w2⟩ := (okT_iff w).1 okw
        obtain ⟨e', r0l, g0, g2, g4, g5, g7, g8⟩ := rdig_loop (t := t) (h := h) (X := ⟨.var, digC (digT w)⟩) (t4 := [.sc (.bool false)]) (t7 := [.sc (.str w)]) (t8 := [.sc (.int .i64 p.length)]) (at_ := w.length) (by omega) (t.length - a1) a1 [(0, [.sc (.str t)]), (2, [.sc (.ptr h.length 0 3)]), (4, [.sc (.bool false)]), (5, [.sc (.int .i64 w.length)]), (7, [.sc (.str w)]), (8, [.sc (.int .i64 p.length)]), (11, [.sc (.int .i64 a1)])] (by omega) rfl rfl rfl rfl rfl rfl rfl
        have r0l := E.run (loop_run r0l)
        rw [dp2] at r0l
        by_cases hpd : p.all isDig = true
        · rw [if_pos hpd] at r0l
          have pok : restT t = [] ∨ (p ≠ [] ∧ p.all isDig = true ∧ p.length ≤ 18) := .inr ⟨h18.1, hpd, h18.2⟩
          have hne : (w ++ p) ≠ [] := fun e => w1.1 (List.append_eq_nil_iff.1 e).1
          have hdig : (w ++ p).all isDig = true := by rw [List.all_append, w2, hpd]; rfl
          have qok : okT (stripT (w ++ p)) = true := (okT_iff _).2 ⟨sno hne, sq4 hdig⟩
          rw [qok] at dq

          have hz0 := digT_zero qok
          by_cases hz : false = true ∧ stripT (w ++ p) = [48]
          · exact absurd hz.1 (by decide)
          · rw [good (dokI.2 ⟨okw, pok, hz⟩)]
            have eqd := okD_digT qok false (p.length : Int)
            rw [← eqd]
            simp only [Bool.false_and] at mk
            have dd := dd (p.length : Int)
            clear eqd good bad dokI hz0 hz
            generalize sg false (digT (stripT (w ++ p))) = res at *
            generalize digT (stripT (w ++ p)) = D at *
            generalize stripT (w ++ p) = q at *
            unfold okD at dd ⊢
            generalize okC res = z1 at *
            generalize (if InW res then _ else (0 : Int)) = z2 at *
            generalize okE res = z3 at *
            simp [M.a51, E.eqs, zero_dC, zeros_digC, zeros_big, hs, hc, f0, f1, f4, lp, wl, dw, at0, c0, c3, tkB, w1B, w2B, w3B, a1l, drB, p0, p0', p0'', c18, c18', r0l, g0, g2, g4, g5, g7, g8, lim1, sl, slA, dq, zq, mk, dd, fldA, freshB, loadA, storeA, trim_pure, pureT, pureV, pureS]

        · rw [if_neg hpd] at r0l
          rw [bad (fun hh => (dokI.1 hh).2.1.elim rne fun q => hpd q.2.1)]
          generalize digT w = dv at *
          simp [M.a51, E.eqs, zero_dC, zeros_digC, hs, hc, f0, f1, f4, lp, wl, dw, at0, c0, c3, tkB, w1B, w2B, w3B, a1l, drB, p0, p0', p0'', c18, c18', r0l, fldA, freshB, loadA, storeA, trim_pure, pureT, pureV, pureS]
      · rw [bad (fun hh => okw (dokI.1 hh).1)]
        have okw : okT w = false := by simpa using okw
        rw [okw] at dw
        generalize digT w = dv at *
        simp [M.a51, E.eqs, zero_dC, zeros_digC, hs, hc, f0, f1, f4, lp, wl, dw, at0, c0, c3, tkB, w1B, w2B, w3B, a1l, drB, p0, p0', p0'', c18, c18', fldA, freshB, loadA, storeA, trim_pure, pureT, pureV, pureS]
    · rw [bad (fun hh => (dokI.1 hh).2.1.elim rne fun q => h18 ⟨q.1, q.2.2⟩)]
      by_cases p0 : p = []
      · have p0' : (p.length : Int) = 0 := by rw [p0]; rfl
        simp [M.a51, E.eqs, zero_dC, zeros_digC, hs, hc, f0, f1, f4, lp, wl, c0, c3, tkB, w1B, w2B, w3B, p0, p0', fldA, freshB, loadA, storeA, trim_pure, pureT, pureV, pureS]
      · have p1 : ¬ (p.length : Int) = 0 := by have := List.length_pos_iff.2 p0; omega
        have c18 : (18 : Int) < p.length := by
          have : ¬ p.length ≤ 18 := fun q => h18 ⟨p0, q⟩
          omega
        have c18' : 18 < p.length := by omega
        simp [M.a51, E.eqs, zero_dC, zeros_digC, hs, hc, f0, f1, f4, lp, wl, c0, c3, tkB, w1B, w2B, w3B, p0, p1, c18, c18', fldA, freshB, loadA, storeA, trim_pure, pureT, pureV, pureS]

theorem rparse_nil (h : Heap) : call 51 [[.sc (.str [])]] h = some ([Dc 0 0, .sc (.int .i64 23)], h) := by
  have lp := loop_run (rpoint_loop (t := []) (hh := h ++ [⟨.var, dC 0 0⟩]) (t2 := [.sc (.ptr h.length 0 3)]) (t4 := [.sc (.bool false)]) (by decide) 0 [(0, [.sc (.str [])]), (2, [.sc (.ptr h.length 0 3)]), (4, [.sc (.bool false)]), (5, [.sc (.int .i64 (-1))]), (6, [.sc (.int .i64 (-1))])] (Nat.le_refl _) rfl rfl rfl rfl rfl)
  have a0 : atI [] = -1 := rfl
  rw [a0] at lp
  have wl : IntKind.i64.wrap (-1) = -1 := wi64 (by omega) (by omega)
  have dw := fun h => spec76 h (t := []) (by decide)
  have d0 : okT [] = false := rfl
  have d1 : digT [] = 0 := rfl
  rw [d0, d1] at dw
  refine callX rfl (by rfl : F 51 = some M.a51) (fun R RO RD RT E => ?_)
  have lp := E.run lp
  simp [M.a51, E.eqs, zero_dC, zeros_digC, lp, wl, dw, fldA, freshB, loadA, storeA, trim_pure, pureT, pureV, pureS]
theorem spec51 (h : Heap) {s : List UInt8} (hs : s.length < 140737488353280) : call 51 [[.sc (.str s)]] h = some (dparseR s, h) := by
  match s, hs with
  | [], _ => rw [dparse_nil]; exact rparse_nil h
  | c :: r, hs =>
    simp only [List.length_cons] at hs
    by_cases h45 : c = 45
    · subst h45
      obtain ⟨b1, b2⟩ := bare_neg r
      exact rparse_neg h (t := r) (c := 45) rfl rfl rfl (by omega) b2 b1
    · obtain ⟨b1, b2⟩ := bare_pos r h45
      exact rparse_pos h (t := c :: r) (c := c) rfl (not45 h45) (by simp only [List.length_cons]; omega) b2 b1
end Go.Proofs.Ytdodhmidhcpnnaa
