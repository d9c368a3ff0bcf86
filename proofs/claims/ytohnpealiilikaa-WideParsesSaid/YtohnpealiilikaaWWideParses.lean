/- WideParses: the law's call says true, of any text and any digits. -/
import Derived.Test.YtohnpealiilikaaT6
import Derived.Test.YtohnpealiilikaaY6
set_option linter.unusedVariables false
set_option linter.unusedSimpArgs false
set_option maxRecDepth 100000
namespace Go.Proofs.Ytohnpealiilikaa.lawWideParses
open Go.Abs

/-- what is parsed is printed as it -/
theorem text_parse {s : List UInt8} {n : Int} (h : parseR s = [W n, .sc (.int .i64 0)]) (hn : InW n) : wtxt n = s := by
  unfold parseR at h
  by_cases hs : numT s
  · rw [if_pos hs] at h
    obtain ⟨h1, h2, h3⟩ := hs
    have hin : InW (sg (negT s) (valT (bareT s))) := by
      by_cases c : InW (sg (negT s) (valT (bareT s)))
      · exact c
      · rw [okW_out'' c] at h
        simp at h
    have e : okW (sg (negT s) (valT (bareT s))) = [W (sg (negT s) (valT (bareT s))), .sc (.int .i64 0)] := by unfold okW okC okE; rw [if_pos hin, if_pos hin]
    rw [e] at h
    have h4 : n = sg (negT s) (valT (bareT s)) := by
      have := List.cons.inj h
      have := AV.agg.inj this.1
      exact (W_inj hin hn this).symm
    have h5 := txt_valT _ h2 h1
    subst h4
    unfold wtxt
    cases s with
    | nil => exact absurd rfl h1.1
    | cons c r =>
      by_cases h45 : c = 45
      · subst h45
        obtain ⟨b1, b2⟩ := bare_neg r
        rw [b1] at h5
        rw [b1, b2] at h3
        rw [b1, b2]
        have hv : valT r ≠ 0 := fun e => h3 ⟨rfl, by rw [← h5, e]; exact (txt_zero_iff 0).2 rfl⟩
        have hlt : sg true (valT r) < 0 := by unfold sg; rw [if_pos rfl]; omega
        rw [if_pos hlt, ← sg_abs, h5]
      · obtain ⟨b1, b2⟩ := bare_pos r h45
        rw [b1] at h5
        rw [b1, b2]
        have hlt : ¬ sg false (valT (c :: r)) < 0 := by unfold sg; rw [if_neg (by decide)]; omega
        rw [if_neg hlt, ← sg_abs, h5]
  · rw [if_neg hs] at h
    simp at h

/-- digits of any bytes -/
def digB (l : List UInt8) : List UInt8 := (l.take 80).map fun b => UInt8.ofNat (48 + b.toNat % 10)
theorem digB_length (l : List UInt8) : (digB l).length = min 80 l.length := by simp [digB]
theorem digB_take {l : List UInt8} {i : Nat} (h : i < l.length) (h80 : i < 80) {b : UInt8} (hb : l[i]? = some b) : (digB l).take (i + 1) = (digB l).take i ++ [UInt8.ofNat (48 + b.toNat % 10)] := by
  rw [List.take_add_one]
  congr 1
  unfold digB
  rw [List.getElem?_map, List.getElem?_take, if_pos h80, hb]
  rfl

theorem b2s_one' {g : Heap} {j e : Nat} {c : UInt8} (hj : g[j]? = some ⟨.row e 1, [.int .u8 (c.toNat : Int)]⟩) : b2sA g [.sc (.sl j 0 1 1)] = some ([.sc (.str [c])], g) := b2s_one hj

theorem build_loop {y : SV} {l : List UInt8} {t2 : TV} : ∀ (m i : Nat) (hh : Heap) (e : Env), i + m = min 80 l.length → Row hh y 1 l.length (Go.Abs.bytes l) → e.get 0 = [.sc (.str ((digB l).take i))] → e.get 1 = [.sc y] → e.get 2 = t2 → e.get 7 = [.sc (.int .i64 i)] →
    ∃ e' h', loopE F O (.loop [0, 1, 2, 7] M.b10_0) e hh = some (.exit 0, e', h') ∧ e'.get 0 = [.sc (.str (digB l))] ∧ e'.get 2 = t2 ∧ Mod (fun _ => False) hh h'
  | 0, i, hh, e, hi, hy, e0, e1, e2, e7 => by
    have hdl := digB_length l
    have ht : (digB l).take i = digB l := List.take_of_length_le (by omega)
    rw [ht] at e0
    have ln := lenA_row hy
    by_cases h80 : l.length ≤ i
    · have c1 : ¬ (i : Int) < l.length := by omega
      have c1' : ¬ i < l.length := by omega
      refine ⟨[(0, [.sc (.str (digB l))]), (1, [.sc y]), (2, t2), (7, [.sc (.int .i64 i)]), (22, [.sc (.bool false)])], hh, exitM fun R RO RD RT E => ?_, rfl, rfl, Mod.refl _ _⟩
      simp [M.b10_0, E.eqs, e0, e1, e2, e7, ln, c1, c1']
    · have c1 : (i : Int) < l.length := by omega
      have c1' : i < l.length := by omega
      have c2 : ¬ (i : Int) < 80 := by omega
      have c2' : ¬ i < 80 := by omega
      refine ⟨[(0, [.sc (.str (digB l))]), (1, [.sc y]), (2, t2), (7, [.sc (.int .i64 i)]), (22, [.sc (.bool false)])], hh, exitM fun R RO RD RT E => ?_, rfl, rfl, Mod.refl _ _⟩
      simp [M.b10_0, E.eqs, e0, e1, e2, e7, ln, c1, c1', c2, c2']
  | m + 1, i, hh, e, hi, hy, e0, e1, e2, e7 => by
    have hlt : i < l.length := by omega
    have h80 : i < 80 := by omega
    obtain ⟨b, hb⟩ : ∃ b, l[i]? = some b := ⟨_, List.getElem?_eq_getElem hlt⟩
    have ln := lenA_row hy
    have ix := ixsA_row hy hlt
    have ci : (Go.Abs.bytes l)[i * 1]? = some (.int .u8 (b.toNat : Int)) := by rw [Nat.mul_one, bytes_get, hb]; rfl
    have ld := loadA_row hy hlt (ag := false) (k := 1) (by omega) ci (by omega)
    obtain ⟨c, hc⟩ : ∃ c, c = UInt8.ofNat (48 + b.toNat % 10) := ⟨_, rfl⟩
    have tk := digB_take hlt h80 hb
    rw [← hc] at tk
    have hcn : (c.toNat : Int) = IntKind.u8.wrap (48 + (b.toNat : Int).tmod 10) := by
      rw [hc, dig_nat (Nat.mod_lt _ (by decide)), Int.tmod_eq_emod_of_nonneg (by omega), wu8']
      omega
    have b2 := b2s_one (g := hh ++ [⟨.row 5 1, [.int .u8 (c.toNat : Int)]⟩]) (j := hh.length) (e := 5) (c := c) (by simp)
    have l1 : ((digB l).take i).length + 1 ≤ lim := by rw [List.length_take]; simp [lim]; omega
    have l2 : (digB l).length = min 80 l.length := digB_length l
    have w1 : IntKind.i64.wrap ((i : Int) + 1) = (i : Int) + 1 := wi64 (by omega) (by omega)
    obtain ⟨e', h', r1, r2, r3, r4⟩ := build_loop (y := y) (l := l) (t2 := t2) m (i + 1) (hh ++ [⟨.row 5 1, [.int .u8 (c.toNat : Int)]⟩]) [(0, [.sc (.str ((digB l).take (i + 1)))]), (1, [.sc y]), (2, t2), (7, [.sc (.int .i64 ((i + 1 : Nat) : Int))])] (by omega) (hy.mod (Mod.app (fun _ => False) _ _) fun _ _ h => h) rfl rfl rfl rfl
    refine ⟨e', h', stepM (fun R RO RD RT E => ?_) r1, r2, r3, (Mod.app _ _ _).trans r4 fun _ _ h => h⟩
    clear r1 r2 r3 r4
    rw [tk]
    generalize (digB l).take i = s at *
    have c1 : (i : Int) < l.length := by omega
    have c2 : (i : Int) < 80 := by omega
    simp [M.b10_0, E.eqs, e0, e1, e2, e7, ln, ix, ld, hlt, h80, c1, c2, b2, l1, w1, ← hcn]

set_option maxHeartbeats 4000000 in
theorem core {H : Type} (h : Heap) (tvs : List TV) (ds : List (DataW H)) (hr : AllRo h) (hi : Ins Try.prog h 6 [9, 43, 4] tvs ds) : ∃ h', callE F O 10 tvs h = some ([.sc (.bool true)], h') := by
  obtain ⟨tv, d, tvs, ds, rfl, rfl, h1, hi⟩ := ins_cons hi
  obtain ⟨tv2, d2, tvs, ds, rfl, rfl, h2, hi⟩ := ins_cons hi
  obtain ⟨tv3, d3, rfl, rfl, h3⟩ := ins_one hi
  obtain ⟨s0, rfl, hs0⟩ := in_str h1
  obtain ⟨y, l, rfl, hy, hl⟩ := in_bytes h2
  obtain ⟨neg, rfl⟩ := in_bool (by kernel_rfl) (by kernel_rfl) h3
  have kn := spec16
  have ln := lenA_row hy
  have hs0' : s0.length < 9223372036854775808 := Nat.lt_of_le_of_lt hs0 (by decide)
  -- what is parsed
  have rest : ∀ s : List UInt8, s.length < 9223372036854775808 → ∃ n e : Int, InW n ∧ (∀ h, call 28 [[.sc (.str s)]] h = some ([W n, .sc (.int .i64 e)], h)) ∧ (∀ h, call 30 [[.sc (.str s)]] h = some ([W n, .sc (.int .i64 e)], h)) ∧ (e = 0 ∧ (∀ h, call 27 [[W n]] h = some ([.sc (.str s)], h)) ∨ ¬ e = 0) := by
    intro s hs
    obtain ⟨n, e, hn, hp⟩ := parseR_form s
    refine ⟨n, e, hn, fun h => by rw [← hp]; exact spec28 h hs, fun h => by rw [← hp]; exact spec30 h hs, ?_⟩
    by_cases he : e = 0
    · subst he
      refine .inl ⟨rfl, fun h => ?_⟩
      rw [spec27 h hn, text_parse hp hn]
    · exact .inr he
  by_cases hn : l = []
  · subst hn
    obtain ⟨n, e, _, p1, p2, p3⟩ := rest s0 hs0'
    simp at ln
    refine ⟨_, callX (hh := h) rfl (by rfl : F 10 = some M.a10) (fun R RO RD RT E => ?_)⟩
    clear h1 h2 h3 rest
    rcases p3 with ⟨rfl, p3⟩ | p3
    · simp [M.a10, E.eqs, wC_zero, ln, p1, p2, p3, kn, fldA, freshB, loadA, storeA, trim_pure, pureT, pureV, pureS]
    · simp [M.a10, E.eqs, wC_zero, ln, p1, p2, p3, kn, fldA, freshB, loadA, storeA, trim_pure, pureT, pureV, pureS]
  · have hl0 : 0 < l.length := List.length_pos_iff.2 hn
    have c0 : (0 : Int) < l.length := by omega
    obtain ⟨e', g, lo, r0, r2, m⟩ := build_loop (y := y) (l := l) (t2 := [.sc (.bool neg)]) (min 80 l.length) 0 h [(0, [.sc (.str [])]), (1, [.sc y]), (2, [.sc (.bool neg)]), (7, [.sc (.int .i64 0)])] (by omega) hy rfl rfl rfl rfl
    have lo := loop_run lo
    have dl := digB_length l
    have ll : 1 + (digB l).length ≤ lim := by simp [lim]; omega
    have ll' : (digB l).length + 1 ≤ lim := by omega
    cases neg
    · obtain ⟨n, e, _, p1, p2, p3⟩ := rest (digB l) (by omega)
      refine ⟨_, callX (hh := trim h (g ++ [⟨.var, wC n⟩, ⟨.var, wC n⟩]) [.sc (.bool true)]) rfl (by rfl : F 10 = some M.a10) (fun R RO RD RT E => ?_)⟩
      have lo := E.run lo
      clear h1 h2 h3 rest dl
      generalize digB l = s at *
      rcases p3 with ⟨rfl, p3⟩ | p3
      · simp [M.a10, E.eqs, wC_zero, ln, c0, hl0, lo, r0, r2, p1, p2, p3, kn, fldA, freshB, loadA, storeA, pureT, pureV, pureS]
      · simp [M.a10, E.eqs, wC_zero, ln, c0, hl0, lo, r0, r2, p1, p2, p3, kn, fldA, freshB, loadA, storeA, pureT, pureV, pureS]
    · obtain ⟨n, e, _, p1, p2, p3⟩ := rest (45 :: digB l) (by simp; omega)
      refine ⟨_, callX (hh := trim h (g ++ [⟨.var, wC n⟩, ⟨.var, wC n⟩]) [.sc (.bool true)]) rfl (by rfl : F 10 = some M.a10) (fun R RO RD RT E => ?_)⟩
      have lo := E.run lo
      clear h1 h2 h3 rest dl
      generalize digB l = s at *
      rcases p3 with ⟨rfl, p3⟩ | p3
      · simp [M.a10, E.eqs, wC_zero, ln, c0, hl0, lo, r0, r2, ll, ll', p1, p2, p3, kn, fldA, freshB, loadA, storeA, pureT, pureV, pureS]
      · simp [M.a10, E.eqs, wC_zero, ln, c0, hl0, lo, r0, r2, ll, ll', p1, p2, p3, kn, fldA, freshB, loadA, storeA, pureT, pureV, pureS]
end Go.Proofs.Ytohnpealiilikaa.lawWideParses
