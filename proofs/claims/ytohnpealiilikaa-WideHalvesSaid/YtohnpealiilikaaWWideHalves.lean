/- WideHalves: the law's call says true, of any number, power and place. -/
import Derived.Test.YtohnpealiilikaaNM
import Derived.Test.YtohnpealiilikaaNF
import Derived.Test.YtohnpealiilikaaNI
import Derived.Test.YtohnpealiilikaaS7
import Derived.Test.YtohnpealiilikaaY2
set_option linter.unusedVariables false
set_option linter.unusedSimpArgs false
set_option maxRecDepth 100000
namespace Go.Proofs.Ytohnpealiilikaa.lawWideHalves
open Go.Abs

def sqd : Nat → ACode → ACode
  | 0, c => c
  | n + 1, .seq _ b => sqd n b
  | _ + 1, c => c
def sqh : ACode → ACode
  | .seq a _ => a
  | c => c
section
variable {R : ACode → Env → Heap → Option (AEx × Env × Heap)} {RO : List AOper → Env → Heap → Option (Env × Heap)} {RD : List (AOper × DM) → Env → Heap → Option (Env × Heap)} {RT : List (AOper × DM) → Env → Heap → Option (Env × Heap × List Heap × List Chk)}
theorem seqM {a b : ACode} {e e1 : Env} {h h1 : Heap} {r : Option (AEx × Env × Heap)} (E : Mach F O R RO RD RT) (hp : R a e h = some (.normal, e1, h1)) (hq : R b e1 h1 = r) : R (.seq a b) e h = r := by
  simp only [E.eqs, hp, hq]
theorem seqR {a b : ACode} {e e1 : Env} {h h1 : Heap} (E : Mach F O R RO RD RT) (hp : R a e h = some (.ret, e1, h1)) : R (.seq a b) e h = some (.ret, e1, h1) := by
  simp only [E.eqs, hp]
end

abbrev Z : Blk := ⟨.var, [.int .i64 0, .int .u64 0]⟩
theorem ldW {g : Heap} {p : Nat} {n : Int} (hp : g[p]? = some ⟨.var, wC n⟩) : loadA g true 2 [.sc (.ptr p 0 2)] = some ([W n], g) := by
  simp [loadA, hp]
theorem stW {g : Heap} {p : Nat} {n : Int} (hp : g[p]? = some ⟨.var, wC n⟩) (m : Int) : storeA g 2 [.sc (.ptr p 0 2)] [W m] = some ([], g.set p ⟨.var, wC m⟩) := by
  simp [storeA, hp]
theorem st1 (g : Heap) (m : Int) : storeA (g ++ [Z]) 2 [.sc (.ptr g.length 0 2)] [W m] = some ([], g ++ [⟨.var, wC m⟩]) := by
  simp [storeA]
theorem st2a (g : Heap) (m : Int) : storeA (g ++ [Z, Z]) 2 [.sc (.ptr g.length 0 2)] [W m] = some ([], g ++ [⟨.var, wC m⟩, Z]) := by
  simp [storeA]
theorem st2b (g : Heap) (m n : Int) : storeA (g ++ [⟨.var, wC m⟩, Z]) 2 [.sc (.ptr (g.length + 1) 0 2)] [W n] = some ([], g ++ [⟨.var, wC m⟩, ⟨.var, wC n⟩]) := by
  simp [storeA]
theorem get_app {g t : Heap} {p : Nat} {B : Blk} (hp : g[p]? = some B) : (g ++ t)[p]? = some B := by
  rw [List.getElem?_append_left (lt_of_get hp)]; exact hp
theorem get_set {g : Heap} {p q : Nat} {B C : Blk} (hp : g[p]? = some B) (h : p ≠ q) : (g.set q C)[p]? = some B := by
  rw [get_set_other h]; exact hp

theorem okC_in (n : Int) : InW (okC n) := by
  unfold okC
  split
  · assumption
  · decide
theorem okE_cases (n : Int) : (okE n = 0 ∧ okC n = n ∧ InW n) ∨ okE n = 20 := by
  unfold okE okC
  by_cases h : InW n
  · exact .inl ⟨by rw [if_pos h], by rw [if_pos h], h⟩
  · exact .inr (by rw [if_neg h])

set_option maxHeartbeats 4000000 in
theorem core {H : Type} (h : Heap) (tvs : List TV) (ds : List (DataW H)) (hr : AllRo h) (hi : Ins Try.prog h 6 [24, 3, 3] tvs ds) : ∃ h', callE F O 8 tvs h = some ([.sc (.bool true)], h') := by
  obtain ⟨tv, d, tvs, ds, rfl, rfl, h1, hi⟩ := ins_cons hi
  obtain ⟨tv2, d2, tvs, ds, rfl, rfl, h2, hi⟩ := ins_cons hi
  obtain ⟨tv3, d3, rfl, rfl, h3⟩ := ins_one hi
  obtain ⟨n, rfl, hn⟩ := in_wide h1
  obtain ⟨k, rfl, hk1, hk2⟩ := in_int h2
  obtain ⟨off, rfl, ho1, ho2⟩ := in_int h3
  clear h1 h2 h3
  -- the power
  have pk := fun h => spec22 h (n := k) (m := 18) (by omega) (by omega) hk1 hk2
  have k0 := Int.emod_nonneg k (b := 18) (by omega)
  have k18 := Int.emod_lt_of_pos k (b := 18) (by omega)
  have wk : IntKind.i64.wrap (1 + k % 18) = 1 + k % 18 := wi64 (by omega) (by omega)
  obtain ⟨kk, hkk⟩ : ∃ kk, kk = 1 + k % 18 := ⟨_, rfl⟩
  rw [← hkk] at wk
  have sp := fun h => spec23 h kk
  have hE : powE kk = 0 := by unfold powE; rw [if_pos (by omega)]
  rw [hE] at sp
  have tin : InW (powC kk) := by
    unfold powC
    rw [if_pos (by omega)]
    rcases (by omega : kk = 1 ∨ kk = 2 ∨ kk = 3 ∨ kk = 4 ∨ kk = 5 ∨ kk = 6 ∨ kk = 7 ∨ kk = 8 ∨ kk = 9 ∨ kk = 10 ∨ kk = 11 ∨ kk = 12 ∨ kk = 13 ∨ kk = 14 ∨ kk = 15 ∨ kk = 16 ∨ kk = 17 ∨ kk = 18) with rfl | rfl | rfl | rfl | rfl | rfl | rfl | rfl | rfl | rfl | rfl | rfl | rfl | rfl | rfl | rfl | rfl | rfl <;> decide
  generalize powC kk = t at *
  -- its half
  have o2 := fun h => spec26 h (n := 2) (by omega) (by omega)
  have o1 := fun h => spec26 h (n := 1) (by omega) (by omega)
  have i2 : InW 2 := by decide
  have i1 : InW 1 := by decide
  have sd := fun h => spec14 h tin i2
  have qin : InW (dvQ t 2) := by unfold dvQ; rw [if_neg (by decide)]; exact okC_in _
  generalize dvQ t 2 = q at *
  generalize dvR t 2 = r at *
  generalize dvE t 2 = de at *
  -- the number, made small
  obtain ⟨hi', hhi⟩ : ∃ x, (n / 18446744073709551616).tmod 1073741824 = x := ⟨_, rfl⟩
  have hb1 : -1073741824 < hi' ∧ hi' < 1073741824 := by
    rw [← hhi]
    exact ⟨Int.lt_tmod_of_pos _ (by omega), Int.tmod_lt_of_pos _ (by omega)⟩
  obtain ⟨lo, hlo⟩ : ∃ lo, lo = n % 18446744073709551616 := ⟨_, rfl⟩
  have l0 : 0 ≤ lo := by rw [hlo]; exact Int.emod_nonneg _ (by omega)
  have l1 : lo < 18446744073709551616 := by rw [hlo]; exact Int.emod_lt_of_pos _ (by omega)
  obtain ⟨m, hm⟩ : ∃ m, m = hi' * 18446744073709551616 + lo := ⟨_, rfl⟩
  have wm : wC m = [.int .i64 hi', .int .u64 lo] := by
    have := W_eq l0 l1 hm
    injection this
  have min : InW m := by unfold InW; omega
  have sm := fun h => spec17 h min tin
  have okm : okW (m * t) = [W (okC (m * t)), .sc (.int .i64 (okE (m * t)))] := rfl
  rw [okm] at sm
  generalize m * t = v at *
  have kn := spec16
  -- the heaps
  obtain ⟨g1, hg1⟩ : ∃ g1 : Heap, g1 = h ++ [⟨.var, wC n⟩] := ⟨_, rfl⟩
  have a3 : g1[h.length]? = some ⟨.var, wC n⟩ := by rw [hg1]; simp
  obtain ⟨g2, hg2⟩ : ∃ g2 : Heap, g2 = g1 ++ [⟨.var, wC t⟩] := ⟨_, rfl⟩
  have b3 : g2[h.length]? = some ⟨.var, wC n⟩ := by rw [hg2]; exact get_app a3
  have b7 : g2[g1.length]? = some ⟨.var, wC t⟩ := by rw [hg2]; simp
  obtain ⟨g3, hg3⟩ : ∃ g3 : Heap, g3 = g2 ++ [⟨.var, wC q⟩, ⟨.var, wC r⟩] := ⟨_, rfl⟩
  have c3 : g3[h.length]? = some ⟨.var, wC n⟩ := by rw [hg3]; exact get_app b3
  have c7 : g3[g1.length]? = some ⟨.var, wC t⟩ := by rw [hg3]; exact get_app b7
  have c9 : g3[g2.length]? = some ⟨.var, wC q⟩ := by rw [hg3]; simp
  have ne7 : g1.length ≠ h.length := by rw [hg1]; simp
  have ne9 : g2.length ≠ h.length := by rw [hg2, hg1]; simp
  obtain ⟨g4, hg4⟩ : ∃ g4 : Heap, g4 = g3.set h.length ⟨.var, wC m⟩ := ⟨_, rfl⟩
  have d3 : g4[h.length]? = some ⟨.var, wC m⟩ := by rw [hg4]; exact get_set_same c3
  have d7 : g4[g1.length]? = some ⟨.var, wC t⟩ := by rw [hg4]; exact get_set c7 ne7
  have d9 : g4[g2.length]? = some ⟨.var, wC q⟩ := by rw [hg4]; exact get_set c9 ne9
  obtain ⟨g5, hg5⟩ : ∃ g5 : Heap, g5 = g4 ++ [⟨.var, wC (okC v)⟩] := ⟨_, rfl⟩
  have e9 : g5[g2.length]? = some ⟨.var, wC q⟩ := by rw [hg5]; exact get_app d9
  have e12 : g5[g4.length]? = some ⟨.var, wC (okC v)⟩ := by rw [hg5]; simp
  have f3a : fldA g3 0 [.sc (.ptr h.length 0 2)] = some ([.sc (.ptr h.length 0 2)], g3) := by simp [fldA, freshB, c3]
  have f3b : loadA g3 false 1 [.sc (.ptr h.length 0 2)] = some ([.sc (.int .i64 (n / 18446744073709551616))], g3) := by simp [loadA, c3, wC]
  have f3c : storeA g3 1 [.sc (.ptr h.length 0 2)] [.sc (.int .i64 hi')] = some ([], g4) := by
    rw [hg4, wm]
    simp [storeA, c3, wC, hlo]
  have ts : ∀ a : List SV, loadA g2 true 2 [.sc (.ptr g1.length 0 2)] = some ([W t], g2) := fun _ => ldW b7
  -- the pieces up to the product
  have top : ∀ (R : ACode → Env → Heap → Option (AEx × Env × Heap)) (RO : List AOper → Env → Heap → Option (Env × Heap)) (RD : List (AOper × DM) → Env → Heap → Option (Env × Heap)) (RT : List (AOper × DM) → Env → Heap → Option (Env × Heap × List Heap × List Chk)), Mach F O R RO RD RT →
      ∀ res, R (sqd 6 M.a8.body) [(1, [.sc (.int .i64 kk)]), (2, [.sc (.int .i64 off)]), (8, [.sc (.int .i64 0)]), (9, [.sc (.ptr g2.length 0 2)]), (12, [.sc (.ptr g4.length 0 2)]), (13, [.sc (.int .i64 (okE v))])] g5 = res →
      R M.a8.body (envFrom 0 [[W n], [.sc (.int .i64 k)], [.sc (.int .i64 off)]]) h = res := fun R RO RD RT E res hres => by
    have ld7 := ldW b7
    have ld7a := ldW (get_app (t := [Z]) b7)
    have ld7b := ldW (get_app (t := [Z, Z]) b7)
    have lm := ldW d3
    have lt := ldW d7
    have sta := st2a g2 q
    have stb := st2b g2 q r
    have stt := st1 g1 t
    have stv := st1 g4 (okC v)
    rw [← hg3] at stb
    rw [← hg2] at stt
    rw [← hg5] at stv
    refine seqM E (e1 := [(1, [.sc (.int .i64 k)]), (2, [.sc (.int .i64 off)]), (3, [.sc (.ptr h.length 0 2)])]) (h1 := g1) ?_ (seqM E (e1 := [(1, [.sc (.int .i64 kk)]), (2, [.sc (.int .i64 off)]), (3, [.sc (.ptr h.length 0 2)])]) (h1 := g1) ?_ (seqM E (e1 := [(1, [.sc (.int .i64 kk)]), (2, [.sc (.int .i64 off)]), (3, [.sc (.ptr h.length 0 2)]), (7, [.sc (.ptr g1.length 0 2)]), (8, [.sc (.int .i64 0)])]) (h1 := g2) ?_ (seqM E (e1 := [(1, [.sc (.int .i64 kk)]), (2, [.sc (.int .i64 off)]), (3, [.sc (.ptr h.length 0 2)]), (7, [.sc (.ptr g1.length 0 2)]), (8, [.sc (.int .i64 0)]), (9, [.sc (.ptr g2.length 0 2)])]) (h1 := g3) ?_ (seqM E (e1 := [(1, [.sc (.int .i64 kk)]), (2, [.sc (.int .i64 off)]), (3, [.sc (.ptr h.length 0 2)]), (7, [.sc (.ptr g1.length 0 2)]), (8, [.sc (.int .i64 0)]), (9, [.sc (.ptr g2.length 0 2)])]) (h1 := g4) ?_ (seqM E ?_ hres)))))
    · simp [E.eqs, hg1]
    · simp [E.eqs, pk, ← hkk, wk]
    · simp [E.eqs, sp, stt]
    · simp [E.eqs, ld7, ld7a, ld7b, o2, sd, sta, stb]
    · simp [E.eqs, f3a, f3b, hhi, f3c]
    · simp [E.eqs, lm, lt, sm, stv]
  -- what comes behind
  have rest : ∃ e' g', e'.get 6 = [.sc (.bool true)] ∧ ∀ (R : ACode → Env → Heap → Option (AEx × Env × Heap)) (RO : List AOper → Env → Heap → Option (Env × Heap)) (RD : List (AOper × DM) → Env → Heap → Option (Env × Heap)) (RT : List (AOper × DM) → Env → Heap → Option (Env × Heap × List Heap × List Chk)), Mach F O R RO RD RT →
      R (sqd 6 M.a8.body) [(1, [.sc (.int .i64 kk)]), (2, [.sc (.int .i64 off)]), (8, [.sc (.int .i64 0)]), (9, [.sc (.ptr g2.length 0 2)]), (12, [.sc (.ptr g4.length 0 2)]), (13, [.sc (.int .i64 (okE v))])] g5 = some (.ret, e', g') := by
    clear top f3a f3b f3c sd sm sp wk pk hkk
    have ne12 : g2.length ≠ g4.length := by rw [hg4, hg3]; simp
    have kn5 := kn g5
    rcases okE_cases v with ⟨hv, hvc, hvi⟩ | hv
    · rw [hv]
      rw [hvc] at e12
      have sa := fun h => spec19 h hvi qin
      have oka : okW (v + q) = [W (okC (v + q)), .sc (.int .i64 (okE (v + q)))] := rfl
      rw [oka] at sa
      generalize v + q = u at *
      have la := ldW e12
      have lb := ldW e9
      have stu := stW e12 (okC u)
      obtain ⟨g6, hg6⟩ : ∃ g6 : Heap, g6 = g5.set g4.length ⟨.var, wC (okC u)⟩ := ⟨_, rfl⟩
      rw [← hg6] at stu
      have e12' : g6[g4.length]? = some ⟨.var, wC (okC u)⟩ := by rw [hg6]; exact get_set_same e12
      rcases okE_cases u with ⟨hu, huc, hui⟩ | hu
      · rw [huc] at e12'
        rw [hu] at sa
        have pk3 := fun h => spec22 h (n := off) (m := 3) (by omega) (by omega) ho1 ho2
        have o0 := Int.emod_nonneg off (b := 3) (by omega)
        have o3 := Int.emod_lt_of_pos off (b := 3) (by omega)
        obtain ⟨dd, hdd⟩ : ∃ dd, dd = off % 3 - 1 := ⟨_, rfl⟩
        have wd : IntKind.i64.wrap (off % 3 - 1) = dd := by rw [wi64 (by omega) (by omega), hdd]
        have od := fun h => spec26 h (n := dd) (by omega) (by omega)
        have din : InW dd := by unfold InW; omega
        have sb := fun h => spec19 h hui din
        have okb : okW (u + dd) = [W (okC (u + dd)), .sc (.int .i64 (okE (u + dd)))] := rfl
        rw [okb] at sb
        generalize u + dd = x at *
        have lc := ldW e12'
        have stx := stW e12' (okC x)
        obtain ⟨g7, hg7⟩ : ∃ g7 : Heap, g7 = g6.set g4.length ⟨.var, wC (okC x)⟩ := ⟨_, rfl⟩
        rw [← hg7] at stx
        have e12'' : g7[g4.length]? = some ⟨.var, wC (okC x)⟩ := by rw [hg7]; exact get_set_same e12'
        have go11 : ∀ (R : ACode → Env → Heap → Option (AEx × Env × Heap)) (RO : List AOper → Env → Heap → Option (Env × Heap)) (RD : List (AOper × DM) → Env → Heap → Option (Env × Heap)) (RT : List (AOper × DM) → Env → Heap → Option (Env × Heap × List Heap × List Chk)), Mach F O R RO RD RT →
            ∀ res, R (sqd 11 M.a8.body) [(1, [.sc (.int .i64 kk)]), (12, [.sc (.ptr g4.length 0 2)]), (13, [.sc (.int .i64 (okE x))])] g7 = res →
            R (sqd 6 M.a8.body) [(1, [.sc (.int .i64 kk)]), (2, [.sc (.int .i64 off)]), (8, [.sc (.int .i64 0)]), (9, [.sc (.ptr g2.length 0 2)]), (12, [.sc (.ptr g4.length 0 2)]), (13, [.sc (.int .i64 0)])] g5 = res := fun R RO RD RT E res hres => by
          refine seqM E (e1 := [(1, [.sc (.int .i64 kk)]), (2, [.sc (.int .i64 off)]), (9, [.sc (.ptr g2.length 0 2)]), (12, [.sc (.ptr g4.length 0 2)]), (13, [.sc (.int .i64 0)]), (48, [.sc (.bool false)])]) (h1 := g5) ?_ (seqM E (e1 := [(1, [.sc (.int .i64 kk)]), (2, [.sc (.int .i64 off)]), (9, [.sc (.ptr g2.length 0 2)]), (12, [.sc (.ptr g4.length 0 2)]), (13, [.sc (.int .i64 0)]), (50, [.sc (.bool false)])]) (h1 := g5) ?_ (seqM E (e1 := [(1, [.sc (.int .i64 kk)]), (2, [.sc (.int .i64 off)]), (12, [.sc (.ptr g4.length 0 2)]), (13, [.sc (.int .i64 0)])]) (h1 := g6) ?_ (seqM E (e1 := [(1, [.sc (.int .i64 kk)]), (2, [.sc (.int .i64 off)]), (12, [.sc (.ptr g4.length 0 2)]), (13, [.sc (.int .i64 0)]), (60, [.sc (.bool false)])]) (h1 := g6) ?_ (seqM E ?_ hres))))
          · simp [E.eqs, kn5]
          · simp [E.eqs]
          · simp [E.eqs, la, lb, sa, stu]
          · simp [E.eqs]
          · simp [E.eqs, lc, pk3, wd, od, sb, stx]
        rcases okE_cases x with ⟨hx, hxc, hxi⟩ | hx
        · rw [hx] at go11
          rw [hxc] at e12''
          have s1 := fun h => spec20 h hxi i1 kk
          have s2 := fun h => spec21 h hxi i1 kk
          generalize scC (x * 1) kk = sc at *
          generalize scE (x * 1) kk = se at *
          obtain ⟨g8, hg8⟩ : ∃ g8 : Heap, g8 = g7 ++ [⟨.var, wC sc⟩] := ⟨_, rfl⟩
          have q12 : g8[g4.length]? = some ⟨.var, wC x⟩ := by rw [hg8]; exact get_app e12''
          have q14 : g8[g7.length]? = some ⟨.var, wC sc⟩ := by rw [hg8]; simp
          obtain ⟨g9, hg9⟩ : ∃ g9 : Heap, g9 = g8 ++ [⟨.var, wC sc⟩] := ⟨_, rfl⟩
          have r14 : g9[g7.length]? = some ⟨.var, wC sc⟩ := by rw [hg9]; exact get_app q14
          have r16 : g9[g8.length]? = some ⟨.var, wC sc⟩ := by rw [hg9]; simp
          have m1 := ldW e12''
          have m1' := ldW (get_app (t := [Z]) e12'')
          have m2 := ldW q12
          have m2' := ldW (get_app (t := [Z]) q12)
          have m3 := ldW r14
          have m4 := ldW r16
          have t1 := st1 g7 sc
          have t2 := st1 g8 sc
          rw [← hg8] at t1
          rw [← hg9] at t2
          have hty : eqK [.i, .i] (wC sc) (wC sc) = some true := by simp [wC, eqK]
          refine ⟨[(6, [.sc (.bool true)])], g9, rfl, fun R RO RD RT E => go11 R RO RD RT E _ ?_⟩
          refine seqM E (e1 := [(1, [.sc (.int .i64 kk)]), (12, [.sc (.ptr g4.length 0 2)]), (13, [.sc (.int .i64 0)]), (73, [.sc (.bool false)])]) (h1 := g7) ?_ (seqM E (e1 := [(1, [.sc (.int .i64 kk)]), (12, [.sc (.ptr g4.length 0 2)]), (14, [.sc (.ptr g7.length 0 2)]), (15, [.sc (.int .i64 se)])]) (h1 := g8) ?_ (seqM E (e1 := [(14, [.sc (.ptr g7.length 0 2)]), (15, [.sc (.int .i64 se)]), (16, [.sc (.ptr g8.length 0 2)]), (17, [.sc (.int .i64 se)])]) (h1 := g9) ?_ ?_))
          · simp [E.eqs]
          · simp [E.eqs, m1, m1', o1, s1, t1]
          · simp [E.eqs, m2, m2', o1, s2, t2]
          · simp [E.eqs, m3, m4, hty]
        · rw [hx] at go11
          refine ⟨[(6, [.sc (.bool true)])], g7, rfl, fun R RO RD RT E => go11 R RO RD RT E _ ?_⟩
          refine seqR E ?_
          simp [E.eqs]
      · rw [hu] at sa
        refine ⟨[(6, [.sc (.bool true)])], g6, rfl, fun R RO RD RT E => ?_⟩
        refine seqM E (e1 := [(1, [.sc (.int .i64 kk)]), (2, [.sc (.int .i64 off)]), (9, [.sc (.ptr g2.length 0 2)]), (12, [.sc (.ptr g4.length 0 2)]), (13, [.sc (.int .i64 0)]), (48, [.sc (.bool false)])]) (h1 := g5) ?_ (seqM E (e1 := [(1, [.sc (.int .i64 kk)]), (2, [.sc (.int .i64 off)]), (9, [.sc (.ptr g2.length 0 2)]), (12, [.sc (.ptr g4.length 0 2)]), (13, [.sc (.int .i64 0)]), (50, [.sc (.bool false)])]) (h1 := g5) ?_ (seqM E (e1 := [(1, [.sc (.int .i64 kk)]), (2, [.sc (.int .i64 off)]), (12, [.sc (.ptr g4.length 0 2)]), (13, [.sc (.int .i64 20)])]) (h1 := g6) ?_ (seqR E ?_)))
        · simp [E.eqs, kn5]
        · simp [E.eqs]
        · simp [E.eqs, la, lb, sa, stu]
        · simp [E.eqs]
    · rw [hv]
      refine ⟨[(6, [.sc (.bool true)])], g5, rfl, fun R RO RD RT E => ?_⟩
      refine seqM E (e1 := [(1, [.sc (.int .i64 kk)]), (2, [.sc (.int .i64 off)]), (9, [.sc (.ptr g2.length 0 2)]), (12, [.sc (.ptr g4.length 0 2)]), (13, [.sc (.int .i64 20)]), (48, [.sc (.bool false)])]) (h1 := g5) ?_ (seqR E ?_)
      · simp [E.eqs, kn5]
      · simp [E.eqs]
  obtain ⟨e', g', e6, hrest⟩ := rest
  refine ⟨_, callX (hh := trim h g' [.sc (.bool true)]) rfl (by rfl : F 8 = some M.a8) (fun R RO RD RT E => ?_)⟩
  rw [top R RO RD RT E _ (hrest R RO RD RT E)]
  simp [M.a8, E.eqs, e6]
end Go.Proofs.Ytohnpealiilikaa.lawWideHalves
