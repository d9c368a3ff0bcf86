/- PackNear: the law's call says true, of any lays, one byte turned, any asks. -/
import Derived.Test.YtokdnndocipilaaSG
import Derived.Test.YtokdnndocipilaaSH
set_option linter.unusedVariables false
set_option linter.unusedSimpArgs false
set_option maxRecDepth 100000
namespace Go.Proofs.Ytokdnndocipilaa.lawPackNear
open Go.Abs

/-- asks in newer memory -/
structure NI (h0 h : Heap) (x : SV) (q : List Ask) : Prop where
  own : Own h x 51 4 q.length (askC q)
  mod : Mod (fun _ => False) h0 h
  new : ∀ j, blk x j → h0.length ≤ j
  ok : ∀ z ∈ q, z.ok

theorem askC_snoc (q : List Ask) (z : Ask) : askC (q ++ [z]) = askC q ++ z.cells := by simp [askC]

theorem NI.push {h0 h : Heap} {x : SV} {q : List Ask} (s : NI h0 h x q) (B : Blk) {z : Ask} (hz : z.ok) (hq : q.length ≤ 2 ^ 30) :
    appA (h ++ [B]) 51 4 32 (.sc x) (.imm 1 z.cells) = some ([.sc (appV (h ++ [B]) x 4 1)], appH (h ++ [B]) x 51 4 1 z.cells) ∧
    NI h0 (appH (h ++ [B]) x 51 4 1 z.cells) (appV (h ++ [B]) x 4 1) (q ++ [z]) := by
  have o1 : Own (h ++ [B]) x 51 4 q.length (askC q) := s.own.mod (Mod.app (fun _ => False) h [B]) fun _ _ h => h
  refine ⟨appA_own o1 rfl (by simp [lim]; omega), ?_, ?_, ?_, ?_⟩
  · have := app_own (e := 51) o1 (m := 1) (ys := z.cells) rfl
    rw [askC_snoc, List.length_append]
    exact this
  · refine (s.mod.trans (Mod.app (fun _ => False) h [B]) fun _ _ h => h).trans app_mod fun j hj hb => ?_
    have := s.new j hb
    omega
  · intro j hj
    rcases blk_app j hj with h1 | h1
    · exact s.new j h1
    · rw [h1]
      have := s.mod.1
      simp
      omega
  · intro y hy
    rcases List.mem_append.1 hy with h1 | h1
    · exact s.ok y h1
    · simp at h1; subst h1; exact hz

theorem near_loop {h0 : Heap} {xa xh : SV} {l : List Lay} {how : List Ask} {v9 : TV} (ra : Row h0 xa 5 l.length (layC l)) (rh : Row h0 xh 4 how.length (askC how)) (hl : ∀ z ∈ l, z.ok h0) (hh : ∀ z ∈ how, z.ok) (hn : l.length ≤ 2 ^ 30) (hhn : how.length ≤ 2 ^ 30) : ∀ (m k : Nat) (h : Heap) (x : SV) (q : List Ask) (e : Env), k + m = l.length → q.length = k → NI h0 h x q →
    e.get 0 = [.sc xa] → e.get 3 = [.sc xh] → e.get 9 = v9 → e.get 10 = [.sc x] → e.get 11 = [.sc (.int .i64 k)] →
    ∃ h' x' q', loopE F O (.loop [0, 3, 9, 10, 11] M.b7_0) e h = some (.exit 0, [(0, [.sc xa]), (3, [.sc xh]), (9, v9), (10, [.sc x']), (11, [.sc (.int .i64 l.length)]), (28, [.sc (.bool false)])], h') ∧ NI h0 h' x' q' ∧ q'.length = l.length
  | 0, k, h, x, q, e, hk, hq, s, e0, e3, e9, e10, e11 => by
    have : k = l.length := by omega
    subst this
    have ln := lenA_row (ra.mod s.mod fun _ _ h => h)
    exact ⟨h, x, q, exitM fun R RO RD RT E => by simp [M.b7_0, E.eqs, e0, e3, e9, e10, e11, ln], s, hq⟩
  | m + 1, k, h, x, q, e, hk, hq, s, e0, e3, e9, e10, e11 => by
    obtain ⟨z, hz⟩ : ∃ z, l[k]? = some z := ⟨_, List.getElem?_eq_getElem (by omega)⟩
    obtain ⟨⟨zw1, zw2⟩, zn, ⟨zi1, zi2⟩, zr⟩ := hl z (List.mem_of_getElem? hz)
    have ra1 := ra.mod s.mod fun _ _ h => h
    have ln := lenA_row ra1
    obtain ⟨g1, g2, g3, g4, g5, g6, g7⟩ := lay_at ra1 hz
    have c1 : (k : Int) < l.length := by omega
    have w1 : IntKind.i64.wrap ((k : Int) + 1) = (k : Int) + 1 := wi64 (by omega) (by omega)
    have pk := spec14 h (n := z.what) (m := 4) (by omega) (by omega) zw1 zw2
    have p0 := Int.emod_nonneg z.what (b := 4) (by omega)
    have p5 := Int.emod_lt_of_pos z.what (b := 4) (by omega)
    generalize z.what % 4 = w at *
    have rh1 := rh.mod s.mod fun _ _ h => h
    have lh := lenA_row rh1
    have key : ∃ h1 x1 z1, (∀ R RO RD RT, Mach F O R RO RD RT → R M.b7_0 (keep [0, 3, 9, 10, 11] e) h = some (.normal, [(0, [.sc xa]), (3, [.sc xh]), (9, v9), (10, [.sc x1]), (11, [.sc (.int .i64 ((k + 1 : Nat) : Int))])], h1)) ∧ NI h0 h1 x1 (q ++ [z1]) := by
      by_cases hcase : ∃ y, how[k]? = some y ∧ y.what.tmod 3 = 0
      · obtain ⟨y, hy, hy3⟩ := hcase
        have hkh : k < how.length := (List.getElem?_eq_some_iff.1 hy).1
        have c2 : (k : Int) < how.length := by omega
        obtain ⟨yw, yb, yn, yt⟩ := hh y (List.mem_of_getElem? hy)
        have lh2 := lenA_row (rh1.mod (Mod.app (fun _ => False) h [⟨.var, [.int .i64 w, .int .u8 255, .int .u64 18446744073709551615, .int .i64 1048576]⟩]) fun _ _ h => h)
        have at2 : ∀ B : Blk, _ := fun B => ask_at (rh1.mod (Mod.app (fun _ => False) h [B]) fun _ _ h => h) hy
        have a1 : ∀ B : Blk, ixsA (h ++ [B]) 4 [.sc xh] (some k) = some ([.sc (elemP xh 4 k)], h ++ [B]) := fun B => (at2 B).1
        have a2 : ∀ (B : Blk) (off : Nat), fldA (h ++ [B]) off [.sc (elemP xh 4 k)] = some ([.sc (fldP (elemP xh 4 k) off)], h ++ [B]) := fun B => (at2 B).2.1
        have a3 : ∀ B : Blk, loadA (h ++ [B]) false 1 [.sc (fldP (elemP xh 4 k) 0)] = some ([.sc (.int .i64 y.what)], h ++ [B]) := fun B => (at2 B).2.2.1
        have a4 : ∀ B : Blk, loadA (h ++ [B]) false 1 [.sc (fldP (elemP xh 4 k) 1)] = some ([.sc (.int .u8 y.b)], h ++ [B]) := fun B => (at2 B).2.2.2.1
        have a5 : ∀ B : Blk, loadA (h ++ [B]) false 1 [.sc (fldP (elemP xh 4 k) 2)] = some ([.sc (.int .u64 y.n)], h ++ [B]) := fun B => (at2 B).2.2.2.2.1
        have a6 : ∀ B : Blk, loadA (h ++ [B]) false 1 [.sc (fldP (elemP xh 4 k) 3)] = some ([.sc (.int .i64 y.t)], h ++ [B]) := fun B => (at2 B).2.2.2.2.2
        obtain ⟨ap, ni⟩ := s.push ⟨.var, [.int .i64 w, .int .u8 y.b, .int .u64 y.n, .int .i64 y.t]⟩ (z := ⟨w, y.b, y.n, y.t⟩) ⟨⟨by simp only; omega, by simp only; omega⟩, yb, yn, yt⟩ (by omega)
        refine ⟨_, _, _, fun R RO RD RT E => ?_, ni⟩
        simp only [Ask.cells] at ap
        have fo : ∀ B : Blk, B.c.length = 4 → ∀ off, fldA (h ++ [B]) off [.sc (.ptr h.length 0 4)] = some ([.sc (.ptr h.length off 4)], h ++ [B]) := fun B hB off => by simp [fldA, freshB, hB]
        have st : ∀ (a b c d v : SV) (off : Nat), off < 4 → storeA (h ++ [⟨.var, [a, b, c, d]⟩]) 1 [.sc (.ptr h.length off 4)] [.sc v] = some ([], h ++ [⟨.var, [a, b, c, d].set off v⟩]) := fun a b c d v off ho => by
          simp [storeA]; omega
        have ld : ∀ (a b c d : SV), loadA (h ++ [⟨.var, [a, b, c, d]⟩]) true 4 [.sc (.ptr h.length 0 4)] = some ([.agg [a, b, c, d]], h ++ [⟨.var, [a, b, c, d]⟩]) := fun a b c d => by simp [loadA]
        have s4 : ∀ (a b c d a' b' c' d' : SV), storeA (h ++ [⟨.var, [a, b, c, d]⟩]) 4 [.sc (.ptr h.length 0 4)] [.agg [a', b', c', d']] = some ([], h ++ [⟨.var, [a', b', c', d']⟩]) := fun a b c d a' b' c' d' => by simp [storeA]
        simp [M.b7_0, E.eqs, e0, e3, e9, e10, e11, ln, c1, w1, g1, g2, g3, pk, lh2, c2, a1, a2, a3, a4, a5, a6, hy3, fo, st, ld, s4, ap, Ask.cells]
      · obtain ⟨ap, ni⟩ := s.push ⟨.var, [.int .i64 w, .int .u8 255, .int .u64 18446744073709551615, .int .i64 1048576]⟩ (z := ⟨w, 255, 18446744073709551615, 1048576⟩) ⟨⟨by simp only; omega, by simp only; omega⟩, by simp only; omega, by simp only; omega, by simp only; omega⟩ (by omega)
        refine ⟨_, _, _, fun R RO RD RT E => ?_, ni⟩
        simp [Ask.cells] at ap
        have lh2 := lenA_row (rh1.mod (Mod.app (fun _ => False) h [⟨.var, [.int .i64 w, .int .u8 255, .int .u64 18446744073709551615, .int .i64 1048576]⟩]) fun _ _ h => h)
        have ld : ∀ (a b c d : SV), loadA (h ++ [⟨.var, [a, b, c, d]⟩]) true 4 [.sc (.ptr h.length 0 4)] = some ([.agg [a, b, c, d]], h ++ [⟨.var, [a, b, c, d]⟩]) := fun a b c d => by simp [loadA]
        have s4 : ∀ (a b c d a' b' c' d' : SV), storeA (h ++ [⟨.var, [a, b, c, d]⟩]) 4 [.sc (.ptr h.length 0 4)] [.agg [a', b', c', d']] = some ([], h ++ [⟨.var, [a', b', c', d']⟩]) := fun a b c d a' b' c' d' => by simp [storeA]
        by_cases hkh : k < how.length
        · obtain ⟨y, hy⟩ : ∃ y, how[k]? = some y := ⟨_, List.getElem?_eq_getElem hkh⟩
          have hy3 : ¬ y.what.tmod 3 = 0 := fun h => hcase ⟨y, hy, h⟩
          have c2 : (k : Int) < how.length := by omega
          obtain ⟨a1, a2, a3, _⟩ := ask_at (rh1.mod (Mod.app (fun _ => False) h [⟨.var, [.int .i64 w, .int .u8 255, .int .u64 18446744073709551615, .int .i64 1048576]⟩]) fun _ _ h => h) hy
          simp [M.b7_0, E.eqs, e0, e3, e9, e10, e11, ln, c1, w1, g1, g2, g3, pk, lh2, c2, a1, a2, a3, hy3, ld, s4, ap, Ask.cells]
        · have c2 : ¬ (k : Int) < how.length := by omega
          simp [M.b7_0, E.eqs, e0, e3, e9, e10, e11, ln, c1, w1, g1, g2, g3, pk, lh2, c2, ld, s4, ap, Ask.cells]
    obtain ⟨h1, x1, z1, st, s1⟩ := key
    obtain ⟨h2, x2, q2, lo, s2, hl2⟩ := near_loop (v9 := v9) ra rh hl hh hn hhn m (k + 1) h1 x1 (q ++ [z1]) [(0, [.sc xa]), (3, [.sc xh]), (9, v9), (10, [.sc x1]), (11, [.sc (.int .i64 ((k + 1 : Nat) : Int))])] (by omega) (by simp [hq]) s1 rfl rfl rfl rfl rfl
    exact ⟨h2, x2, q2, stepM st lo, s2, hl2⟩

theorem core {H : Type} (h : Heap) (tvs : List TV) (ds : List (DataW H)) (hr : AllRo h) (hi : Ins Try.prog h 6 [22, 3, 5, 47] tvs ds) (hb : Rows.uptoBulkAll ds ≤ 1048576) : ∃ h', callE F O 7 tvs h = some ([.sc (.bool true)], h') := by
  obtain ⟨tv, d, tvs, ds, rfl, rfl, h1, hi⟩ := ins_cons hi
  obtain ⟨tv2, d2, tvs, ds, rfl, rfl, h2, hi⟩ := ins_cons hi
  obtain ⟨tv3, d3, tvs, ds, rfl, rfl, h3, hi⟩ := ins_cons hi
  obtain ⟨tv4, d4, rfl, rfl, h4⟩ := ins_one hi
  obtain ⟨x, l, rfl, hx, hl, hls⟩ := in_lays h1
  obtain ⟨a, rfl, ha1, ha2⟩ := in_int h2
  obtain ⟨to, rfl, ht⟩ := in_num (by kernel_rfl) tyB h3
  have ht := wf_u8 ht
  obtain ⟨y, how, rfl, hy, hhow, hhl⟩ := in_asks h4
  simp only [Rows.uptoBulkAll] at hb
  have hlz : ∀ z ∈ l, z.ok h ∧ z.t.length ≤ 2 ^ 38 := fun z hz => ⟨hl z hz, by
    have : z.t.length ≤ sizeL l := size_mem hz
    omega⟩
  obtain ⟨g1, z1, e1, f1⟩ := spec30 hx hlz (by omega) (by omega)
  have hln := laidB_le l hlz
  have ln1 := lenA_row f1.row
  obtain ⟨tb, htb⟩ : ∃ tb : UInt8, (tb.toNat : Int) = to := ⟨UInt8.ofNat to.toNat, by rw [UInt8.toNat_ofNat']; omega⟩
  subst htb
  have step : ∃ g2 lst, lst.length = (laidB l).length ∧ Own g2 z1 5 1 lst.length (Go.Abs.bytes lst) ∧ Mod (fun _ => False) h g2 ∧
      ((laidB l).length = 0 ∧ g2 = g1 ∨ 0 < (laidB l).length ∧ ∃ k : Nat, call 14 [[.sc (.int .i64 a)], [.sc (.int .i64 (laidB l).length)]] g1 = some ([.sc (.int .i64 k)], g1) ∧ ixsA g1 1 [.sc z1] (some k) = some ([.sc (elemP z1 1 k)], g1) ∧ storeA g1 1 [.sc (elemP z1 1 k)] [.sc (.int .u8 tb.toNat)] = some ([], g2)) := by
    by_cases hz : (laidB l).length = 0
    · exact ⟨g1, laidB l, rfl, f1.own, f1.mod, .inl ⟨hz, rfl⟩⟩
    · have p1 := spec14 g1 (n := a) (m := ((laidB l).length : Int)) (by omega) (by omega) ha1 ha2
      have hk1 := Int.emod_nonneg a (b := ((laidB l).length : Int)) (by omega)
      have hk2 := Int.emod_lt_of_pos a (b := ((laidB l).length : Int)) (by omega)
      generalize a % ((laidB l).length : Int) = ki at *
      obtain ⟨k, rfl⟩ := Int.eq_ofNat_of_zero_le hk1
      obtain ⟨i1, i2, i3, i4⟩ := fill_row f1.own (k := k) (by omega) tb
      refine ⟨_, _, List.length_set .., i3, f1.mod.trans i4 fun j hj hb => ?_, .inr ⟨by omega, k, p1, i1, i2⟩⟩
      have := f1.new j hb
      omega
  obtain ⟨g2, lst, hlst, o2, m2, hcase⟩ := step
  have ni0 : NI g2 g2 .nils [] := ⟨.inl ⟨rfl, rfl, rfl⟩, Mod.refl _ _, fun j hj => hj.elim, by simp⟩
  obtain ⟨g3, x3, q3, lo, ni, hq3⟩ := near_loop (v9 := [.sc z1]) (hx.mod m2 fun _ _ h => h) (hy.mod m2 fun _ _ h => h) (fun z hz => by
    obtain ⟨b1, b2, b3, b4⟩ := hl z hz
    exact ⟨b1, b2, b3, b4.mod m2 fun _ _ h => h⟩) hhow (by omega) (by omega) l.length 0 g2 .nils [] [(0, [.sc x]), (3, [.sc y]), (9, [.sc z1]), (10, [.sc .nils]), (11, [.sc (.int .i64 0)])] (by omega) rfl ni0 rfl rfl rfl rfl rfl
  have lo := loop_run lo
  have kn := spec13 g3
  obtain ⟨g4, e4⟩ := spec29 (o2.row.mod ni.mod fun _ _ h => h) ni.own.row (by omega) ni.ok (by omega)
  refine ⟨_, callX (hh := trim h g4 [.sc (.bool true)]) rfl (by rfl : F 7 = some M.a7) (fun R RO RD RT E => ?_)⟩
  have lo := E.run lo
  rcases hcase with ⟨c1, rfl⟩ | ⟨c1, k, p1, i1, i2⟩
  · rw [c1] at ln1
    simp at ln1
    simp [M.a7, E.eqs, e1, ln1, lo, kn, e4]
  · have c2 : (0 : Int) < (laidB l).length := by omega
    simp [M.a7, E.eqs, e1, ln1, c1, c2, p1, i1, i2, lo, kn, e4]
end Go.Proofs.Ytokdnndocipilaa.lawPackNear
