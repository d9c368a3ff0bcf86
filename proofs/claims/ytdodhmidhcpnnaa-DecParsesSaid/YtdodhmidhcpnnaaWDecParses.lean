/- DecParses: the law's call says true, of any text and any digits. -/
import Derived.Test.YtdodhmidhcpnnaaDB
import Derived.Test.YtdodhmidhcpnnaaZ2
set_option linter.unusedVariables false
set_option linter.unusedSimpArgs false
set_option maxRecDepth 100000
namespace Go.Proofs.Ytdodhmidhcpnnaa.lawDecParses
open Go.Abs

theorem in_strZ {H : Type} {k : Nat} {tv : TV} {d : DataW H} {h : Heap} (hi : In1 Try.prog h (k + 1) 9 tv d) (hw : WOk Try.prog 9 d) : ∃ l : List UInt8, tv = [.sc (.str l)] ∧ l.length ≤ 140737488351232 := by
  obtain ⟨xs, hv, rfl⟩ := in_cell (by kernel_rfl) hi
  obtain ⟨l, rfl, h2, rfl⟩ := View.string (by kernel_rfl) hv
  exact ⟨l, rfl, wok_string hw⟩

theorem build_loop {y : SV} {l : List UInt8} {pt : Int} {t3 : TV} (p1 : -9223372036854775808 ≤ pt) (p2 : pt < 9223372036854775808) : ∀ (m i : Nat) (s : List UInt8) (hh : Heap) (e : Env), i + m = min 70 l.length → s.length ≤ 2 * i → Row hh y 1 l.length (Go.Abs.bytes l) → e.get 0 = [.sc (.str s)] → e.get 1 = [.sc y] → e.get 2 = [.sc (.int .i64 pt)] → e.get 3 = t3 → e.get 9 = [.sc (.int .i64 i)] →
    ∃ (e' : Env) (h' : Heap) (s' : List UInt8), loopE F O (.loop [0, 1, 2, 3, 9] M.b14_0) e hh = some (.exit 0, e', h') ∧ e'.get 0 = [.sc (.str s')] ∧ e'.get 3 = t3 ∧ s'.length ≤ 140 ∧ Mod (fun _ => False) hh h'
  | 0, i, s, hh, e, hi, hs, hy, e0, e1, e2, e3, e9 => by
    have ln := lenA_row hy
    by_cases h80 : l.length ≤ i
    · have c1 : ¬ (i : Int) < l.length := by omega
      have c1' : ¬ i < l.length := by omega
      refine ⟨[(0, [.sc (.str s)]), (1, [.sc y]), (2, [.sc (.int .i64 pt)]), (3, t3), (9, [.sc (.int .i64 i)]), (26, [.sc (.bool false)])], hh, s, exitM fun R RO RD RT E => ?_, rfl, rfl, by omega, Mod.refl _ _⟩
      simp [M.b14_0, E.eqs, e0, e1, e2, e3, e9, ln, c1, c1']
    · have c1 : (i : Int) < l.length := by omega
      have c1' : i < l.length := by omega
      have c2 : ¬ (i : Int) < 70 := by omega
      have c2' : ¬ i < 70 := by omega
      refine ⟨[(0, [.sc (.str s)]), (1, [.sc y]), (2, [.sc (.int .i64 pt)]), (3, t3), (9, [.sc (.int .i64 i)]), (26, [.sc (.bool false)])], hh, s, exitM fun R RO RD RT E => ?_, rfl, rfl, by omega, Mod.refl _ _⟩
      simp [M.b14_0, E.eqs, e0, e1, e2, e3, e9, ln, c1, c1', c2, c2']
  | m + 1, i, s, hh, e, hi, hs, hy, e0, e1, e2, e3, e9 => by
    have hlt : i < l.length := by omega
    have h80 : i < 70 := by omega
    obtain ⟨b, hb⟩ : ∃ b, l[i]? = some b := ⟨_, List.getElem?_eq_getElem hlt⟩
    have ln := lenA_row hy
    have ix := ixsA_row hy hlt
    have ci : (Go.Abs.bytes l)[i * 1]? = some (.int .u8 (b.toNat : Int)) := by rw [Nat.mul_one, bytes_get, hb]; rfl
    have ld := loadA_row hy hlt (ag := false) (k := 1) (by omega) ci (by omega)
    obtain ⟨c, hc⟩ : ∃ c, c = UInt8.ofNat (48 + b.toNat % 10) := ⟨_, rfl⟩
    have hcn : IntKind.u8.wrap (48 + (b.toNat : Int).tmod 10) = (c.toNat : Int) := by
      rw [hc, dig_nat (Nat.mod_lt _ (by decide)), Int.tmod_eq_emod_of_nonneg (by omega), wu8']
      omega
    have b2 := b2s_one (g := hh ++ [⟨.row 5 1, [.int .u8 (c.toNat : Int)]⟩]) (j := hh.length) (e := 5) (c := c) (by simp)
    have pk := fun h => spec16 h (n := pt) (m := 25) (by omega) (by omega) p1 p2
    have l1 : s.length + 1 ≤ lim := by simp [lim]; omega
    have l2 : s.length + 1 + 1 ≤ lim := by simp [lim]; omega
    have w1 : IntKind.i64.wrap ((i : Int) + 1) = (i : Int) + 1 := wi64 (by omega) (by omega)
    have c1 : (i : Int) < l.length := by omega
    have c2 : (i : Int) < 70 := by omega
    have hy2 := hy.mod (Mod.app (fun _ => False) hh [⟨.row 5 1, [.int .u8 (c.toNat : Int)]⟩]) fun _ _ h => h
    generalize hq : pt % 25 = q at *
    by_cases hqi : (i : Int) = q
    · subst hqi
      obtain ⟨e', h', s', r1, r2, r3, r4, r5⟩ := build_loop (y := y) (l := l) (pt := pt) (t3 := t3) p1 p2 m (i + 1) (s ++ [46] ++ [c]) (hh ++ [⟨.row 5 1, [.int .u8 (c.toNat : Int)]⟩]) [(0, [.sc (.str (s ++ [46] ++ [c]))]), (1, [.sc y]), (2, [.sc (.int .i64 pt)]), (3, t3), (9, [.sc (.int .i64 ((i + 1 : Nat) : Int))])] (by omega) (by simp; omega) hy2 rfl rfl rfl rfl rfl
      refine ⟨e', h', s', stepM (fun R RO RD RT E => ?_) r1, r2, r3, r4, (Mod.app _ _ _).trans r5 fun _ _ h => h⟩
      clear r1 r2 r3 r4 r5
      simp [M.b14_0, E.eqs, e0, e1, e2, e3, e9, ln, ix, ld, hlt, h80, c1, c2, pk, b2, l1, l2, w1, hcn]
    · obtain ⟨e', h', s', r1, r2, r3, r4, r5⟩ := build_loop (y := y) (l := l) (pt := pt) (t3 := t3) p1 p2 m (i + 1) (s ++ [c]) (hh ++ [⟨.row 5 1, [.int .u8 (c.toNat : Int)]⟩]) [(0, [.sc (.str (s ++ [c]))]), (1, [.sc y]), (2, [.sc (.int .i64 pt)]), (3, t3), (9, [.sc (.int .i64 ((i + 1 : Nat) : Int))])] (by omega) (by simp; omega) hy2 rfl rfl rfl rfl rfl
      refine ⟨e', h', s', stepM (fun R RO RD RT E => ?_) r1, r2, r3, r4, (Mod.app _ _ _).trans r5 fun _ _ h => h⟩
      clear r1 r2 r3 r4 r5
      simp [M.b14_0, E.eqs, e0, e1, e2, e3, e9, ln, ix, ld, hlt, h80, c1, c2, pk, hqi, b2, l1, w1, hcn]

set_option maxHeartbeats 4000000 in
theorem core {H : Type} (h : Heap) (tvs : List TV) (ds : List (DataW H)) (hr : AllRo h) (hi : Ins Try.prog h 6 [9, 60, 3, 4] tvs ds) (hz : (DataW.weightsEach Try.prog [9, 60, 3, 4] ds).all (· ≤ reachBytes) = true) : ∃ h', callE F O 14 tvs h = some ([.sc (.bool true)], h') := by
  obtain ⟨tv, d, tvs, ds, rfl, rfl, h1, hi⟩ := ins_cons hi
  obtain ⟨tv2, d2, tvs, ds, rfl, rfl, h2, hi⟩ := ins_cons hi
  obtain ⟨tv4, d4, tvs, ds, rfl, rfl, h4, hi⟩ := ins_cons hi
  obtain ⟨tv3, d3, rfl, rfl, h3⟩ := ins_one hi
  obtain ⟨s0, rfl, hs0⟩ := in_strZ h1 (wok_of hz 0 rfl rfl)
  obtain ⟨y, l, rfl, hy, hl⟩ := in_bytesZ h2 (wok_of hz 1 rfl rfl)
  obtain ⟨pt, rfl, p1, p2⟩ := in_int h4
  obtain ⟨neg, rfl⟩ := in_bool (by kernel_rfl) (by kernel_rfl) h3
  have kn := spec20
  have ln := lenA_row hy
  have hs0' : s0.length < 140737488353280 := by omega
  -- what is parsed
  have rest : ∀ s : List UInt8, s.length < 140737488353280 → ∃ n m e : Int, (∀ h, call 50 [[.sc (.str s)]] h = some ([Dc n m, .sc (.int .i64 e)], h)) ∧ (∀ h, call 51 [[.sc (.str s)]] h = some ([Dc n m, .sc (.int .i64 e)], h)) ∧ ((e = 0 ∧ ∀ h, call 48 [[Dc n m]] h = some ([.sc (.str s), .sc (.int .i64 0)], h)) ∨ (¬ e = 0 ∧ ∃ (x : List UInt8) (g : Int), ∀ h, call 48 [[Dc n m]] h = some ([.sc (.str x), .sc (.int .i64 g)], h))) := by
    intro s hs
    obtain ⟨n, m, e, hn, hp⟩ := dparseR_form s
    refine ⟨n, m, e, fun h => by rw [← hp]; exact spec50 h hs, fun h => by rw [← hp]; exact spec51 h hs, ?_⟩
    by_cases he : e = 0
    · subst he
      obtain ⟨t1, t2⟩ := dtxt_parse hp hn
      refine .inl ⟨rfl, fun h => ?_⟩
      rw [spec48 h hn]
      unfold textR
      rw [if_pos t2, t1]
    · refine .inr ⟨he, ?_⟩
      by_cases c : rgt m = true
      · exact ⟨dtxt n m, 0, fun h => by rw [spec48 h hn]; unfold textR; rw [if_pos c]⟩
      · exact ⟨[], 21, fun h => by rw [spec48 h hn]; unfold textR; rw [if_neg c]⟩
  by_cases hn : l = []
  · subst hn
    obtain ⟨n, m, e, p1, p2, p3⟩ := rest s0 hs0'
    simp at ln
    refine ⟨_, callX (hh := h) rfl (by rfl : F 14 = some M.a14) (fun R RO RD RT E => ?_)⟩
    clear h1 h2 h3 h4 rest
    rcases p3 with ⟨rfl, p3⟩ | ⟨p4, x, g, p3⟩
    · simp [M.a14, E.eqs, zero_dC, ln, p1, p2, p3, kn, fldA, freshB, loadA, storeA, trim_pure, pureT, pureV, pureS]
    · simp [M.a14, E.eqs, zero_dC, ln, p1, p2, p3, p4, kn, fldA, freshB, loadA, storeA, trim_pure, pureT, pureV, pureS]
  · have hl0 : 0 < l.length := List.length_pos_iff.2 hn
    have c0 : (0 : Int) < l.length := by omega
    obtain ⟨e', g, s', lo, r0, r3, rl, m⟩ := build_loop (y := y) (l := l) (pt := pt) (t3 := [.sc (.bool neg)]) p1 p2 (min 70 l.length) 0 [] h [(0, [.sc (.str [])]), (1, [.sc y]), (2, [.sc (.int .i64 pt)]), (3, [.sc (.bool neg)]), (9, [.sc (.int .i64 0)])] (by omega) (by simp) hy rfl rfl rfl rfl rfl
    have lo := loop_run lo
    have ll : 1 + s'.length ≤ lim := by simp [lim]; omega
    have ll' : s'.length + 1 ≤ lim := by omega
    cases neg
    · obtain ⟨n, mm, e, p1, p2, p3⟩ := rest s' (by omega)
      refine ⟨_, callX (hh := trim h (g ++ [⟨.var, dC n mm⟩, ⟨.var, dC n mm⟩]) [.sc (.bool true)]) rfl (by rfl : F 14 = some M.a14) (fun R RO RD RT E => ?_)⟩
      have lo := E.run lo
      clear h1 h2 h3 h4 rest
      rcases p3 with ⟨rfl, p3⟩ | ⟨p4, x, g, p3⟩
      · simp [M.a14, E.eqs, zero_dC, ln, c0, hl0, lo, r0, r3, p1, p2, p3, kn, fldA, freshB, loadA, storeA, pureT, pureV, pureS]
      · simp [M.a14, E.eqs, zero_dC, ln, c0, hl0, lo, r0, r3, p1, p2, p3, p4, kn, fldA, freshB, loadA, storeA, pureT, pureV, pureS]
    · obtain ⟨n, mm, e, p1, p2, p3⟩ := rest (45 :: s') (by simp; omega)
      refine ⟨_, callX (hh := trim h (g ++ [⟨.var, dC n mm⟩, ⟨.var, dC n mm⟩]) [.sc (.bool true)]) rfl (by rfl : F 14 = some M.a14) (fun R RO RD RT E => ?_)⟩
      have lo := E.run lo
      clear h1 h2 h3 h4 rest
      rcases p3 with ⟨rfl, p3⟩ | ⟨p4, x, g, p3⟩
      · simp [M.a14, E.eqs, zero_dC, ln, c0, hl0, lo, r0, r3, ll, ll', p1, p2, p3, kn, fldA, freshB, loadA, storeA, pureT, pureV, pureS]
      · simp [M.a14, E.eqs, zero_dC, ln, c0, hl0, lo, r0, r3, ll, ll', p1, p2, p3, p4, kn, fldA, freshB, loadA, storeA, pureT, pureV, pureS]
end Go.Proofs.Ytdodhmidhcpnnaa.lawDecParses
