/- Chapter 2: a number's text. -/
import Derived.Test.YtdodhmidhcpnnaaT2
import Derived.Test.YtdodhmidhcpnnaaNC
set_option linter.unusedVariables false
set_option linter.unusedSimpArgs false
set_option maxRecDepth 100000
namespace Go.Proofs.Ytdodhmidhcpnnaa
open Go.Abs

theorem own_app1 {h : Heap} {x : SV} {l : List UInt8} (hx : Own h x 5 1 l.length (Go.Abs.bytes l)) (b : UInt8) (hl : l.length < lim) :
    appA h 5 1 1 (.sc x) (.imm 1 [.int .u8 b.toNat]) = some ([.sc (appV h x 1 1)], appH h x 5 1 1 [.int .u8 b.toNat]) ∧ Own (appH h x 5 1 1 [.int .u8 b.toNat]) (appV h x 1 1) 5 1 (l ++ [b]).length (Go.Abs.bytes (l ++ [b])) ∧
    Mod (blk x) h (appH h x 5 1 1 [.int .u8 b.toNat]) ∧ ∀ j, blk (appV h x 1 1) j → blk x j ∨ h.length ≤ j := by
  refine ⟨appA_own hx rfl (by omega), ?_, app_mod, fun j hj => (blk_app j hj).imp id fun e => by omega⟩
  have := app_own (e := 5) hx (m := 1) (ys := [.int .u8 b.toNat]) rfl
  rw [bytes_append, List.length_append]
  exact this

theorem zeros4 : [SV.int .u64 0, .int .u64 0, .int .u64 0, .int .u64 0] = l4 0 := rfl
theorem l4_zero {V : Nat} (hV : V < 115792089237316195423570985008687907853269984665640564039457584007913129639936) : eqK [.i, .i, .i, .i] (l4 V) (l4 0) = some (decide (V = 0)) := by
  obtain ⟨a0, a1, a2, a3, h0, h1, h2, h3, hv⟩ := l4_ex hV
  rw [l4_of h0 h1 h2 h3 hv, ← zeros4]
  by_cases c0 : a0 = 0
  · by_cases c1 : a1 = 0
    · by_cases c2 : a2 = 0
      · by_cases c3 : a3 = 0
        · have : V = 0 := by omega
          subst c0 c1 c2 c3
          simp [this]
        · have : ¬ V = 0 := by omega
          simp [c0, c1, c2, c3, this]
      · have : ¬ V = 0 := by omega
        simp [c0, c1, c2, this]
    · have : ¬ V = 0 := by omega
      simp [c0, c1, this]
  · have : ¬ V = 0 := by omega
    simp [c0, this]

theorem text_loop {t1 : TV} {j : Nat} : ∀ (V : Nat) (l : List UInt8) (x : SV) (hh : Heap) (e : Env), V < 115792089237316195423570985008687907853269984665640564039457584007913129639936 → l.length + (digs V).length ≤ 1000 → hh[j]? = some ⟨.var, l4 V⟩ → Own hh x 5 1 l.length (Go.Abs.bytes l) → ¬ blk x j →
    e.get 1 = t1 → e.get 5 = [.sc (.ptr j 0 4)] → e.get 6 = [.sc x] →
    ∃ e' h' x', loopE F O (.loop [1, 5, 6] M.b72_1) e hh = some (.exit 0, e', h') ∧ e'.get 1 = t1 ∧ e'.get 6 = [.sc x'] ∧ Own h' x' 5 1 (l ++ digs V).length (Go.Abs.bytes (l ++ digs V)) ∧ Mod (fun k => k = j ∨ blk x k) hh h' ∧ ∀ k, blk x' k → blk x k ∨ hh.length ≤ k := by
  intro V
  induction V using Nat.strongRecOn with
  | _ V ih =>
    intro l x hh e hV hl g1 ow hbx e1 e5 e6
    have lj : j < hh.length := lt_of_get g1
    have s1 := fun h => spec78 h (V := V) (d := 10) hV (by decide) (by decide)
    have z10 : ((10 : Nat) : Int) = 10 := rfl
    rw [z10] at s1
    have m10 := mod10 V
    obtain ⟨c, hcd⟩ : ∃ c, c = UInt8.ofNat (48 + V % 10) := ⟨_, rfl⟩
    have bd := byte_dig m10
    rw [← hcd] at bd
    obtain ⟨h1, hh1⟩ : ∃ h1 : Heap, h1 = hh.set j ⟨.var, l4 (V / 10)⟩ := ⟨_, rfl⟩
    have m1 : Mod (fun k => k = j) hh h1 := by rw [hh1]; exact Mod.set _ _ rfl
    have k1 : h1[j]? = some ⟨.var, l4 (V / 10)⟩ := by rw [hh1]; exact get_set_same g1
    have ow1 := ow.mod m1 fun k hk e => hbx (e ▸ hk)
    obtain ⟨a1, ow2, m2, n2⟩ := own_app1 ow1 c (by simp [lim]; omega)
    have k2 := m2.get k1 hbx
    generalize appH h1 x 5 1 1 [.int .u8 c.toNat] = h2 at *
    generalize appV h1 x 1 1 = x2 at *
    have hlen1 : h1.length = hh.length := by rw [hh1, List.length_set]
    have m12 : Mod (fun k => k = j ∨ blk x k) hh h2 := (m1.mono fun _ _ h => .inl h).trans m2 fun _ _ h => .inr h
    have hb2 : ¬ blk x2 j := fun hk => (n2 j hk).elim hbx (by omega)
    have q4 : V / 10 < 115792089237316195423570985008687907853269984665640564039457584007913129639936 := Nat.lt_of_le_of_lt (Nat.div_le_self _ _) hV
    have ez := l4_zero q4
    have ds : digs V = c :: (if V / 10 = 0 then [] else digs (V / 10)) := by
      by_cases h : V < 10
      · have e0 : V / 10 = 0 := by omega
        have e2 : V % 10 = V := by omega
        rw [if_pos e0, digs_small h, hcd, e2]
      · have e0 : ¬ V / 10 = 0 := by omega
        rw [if_neg e0, digs_big h, hcd]
    rw [ds] at hl ⊢
    by_cases h0 : V / 10 = 0
    · rw [if_pos h0]
      rw [decide_eq_true h0] at ez
      refine ⟨[(1, t1), (5, [.sc (.ptr j 0 4)]), (6, [.sc x2]), (31, [.sc (.bool true)])], h2, x2, exitM fun R RO RD RT E => ?_, rfl, rfl, ow2, m12, fun k hk => (n2 k hk).imp id fun h => by omega⟩
      clear ih hV hl ds q4 m10 hcd h0
      generalize V / 10 = q at *
      generalize V % 10 = r at *
      simp [M.b72_1, E.eqs, e1, e5, e6, g1, loadA, storeA, s1, ← hh1, bd, a1, k2, zeros4, ez]
    · rw [if_neg h0] at hl ⊢
      rw [decide_eq_false h0] at ez
      obtain ⟨e', h', x', r1, r2, r3, r4, r5, r6⟩ := ih (V / 10) (by omega) (l ++ [c]) x2 h2 [(1, t1), (5, [.sc (.ptr j 0 4)]), (6, [.sc x2])] q4 (by simp at hl ⊢; omega) k2 ow2 hb2 rfl rfl rfl
      rw [List.append_assoc] at r4
      refine ⟨e', h', x', stepM (fun R RO RD RT E => ?_) r1, r2, r3, r4, m12.trans r5 fun k hk hs => ?_, fun k hk => ?_⟩
      · clear ih hV hl ds q4 m10 hcd h0 r1 r2 r3 r4 r5 r6
        generalize V / 10 = q at *
        generalize V % 10 = r at *
        simp [M.b72_1, E.eqs, e1, e5, e6, g1, loadA, storeA, s1, ← hh1, bd, a1, k2, zeros4, ez]
      · rcases hs with e | hs
        · exact .inl e
        · exact .inr ((n2 k hs).resolve_right (by omega))
      · rcases r6 k hk with h | h
        · exact (n2 k h).imp id fun h => by omega
        · right
          have := m12.1
          omega

theorem rev_loop {x : SV} {l0 : List UInt8} (hn : l0.length < 1048576) : ∀ (m i : Nat) (L : List UInt8) (hh : Heap) (e : Env), L.length = l0.length → l0.length ≤ 2 * i + m → 2 * i ≤ l0.length + 1 →
    (∀ t, t < l0.length → L[t]? = if t < i ∨ l0.length < t + 1 + i then l0[l0.length - 1 - t]? else l0[t]?) → Own hh x 5 1 L.length (Go.Abs.bytes L) → e.get 6 = [.sc x] → e.get 8 = [.sc (.int .i64 i)] → e.get 9 = [.sc (.int .i64 ((l0.length : Int) - 1 - i))] →
    ∃ e' h', loopE F O (.loop [6, 8, 9] M.b72_0) e hh = some (.exit 2, e', h') ∧ e'.get 6 = [.sc x] ∧ Own h' x 5 1 l0.length (Go.Abs.bytes l0.reverse) ∧ Mod (blk x) hh h' := by
  intro m
  induction m with
  | zero =>
    intro i L hh e hL h1 h2 hp ow e6 e8 e9
    have hrev : L = l0.reverse := by
      apply List.ext_getElem?
      intro t
      by_cases ht : t < l0.length
      · rw [hp t ht, List.getElem?_reverse ht]
        split
        · rfl
        · congr 1; omega
      · rw [List.getElem?_eq_none (by omega), List.getElem?_eq_none (by simp; omega)]
    subst hrev
    rw [hL] at ow
    have c1 : ¬ (i : Int) < (l0.length : Int) - 1 - i := by omega
    refine ⟨[(6, [.sc x]), (8, [.sc (.int .i64 i)]), (9, [.sc (.int .i64 ((l0.length : Int) - 1 - i))]), (43, [.sc (.bool false)])], hh, exitM fun R RO RD RT E => ?_, rfl, ow, Mod.refl _ _⟩
    simp [M.b72_0, E.eqs, e6, e8, e9, c1]
  | succ m ih =>
    intro i L hh e hL h1 h2 hp ow e6 e8 e9
    by_cases hc : 2 * i + 1 < l0.length
    · obtain ⟨k, hk⟩ : ∃ k, k = l0.length - 1 - i := ⟨_, rfl⟩
      have hik : i < k := by omega
      have hkn : k < l0.length := by omega
      have ek : (l0.length : Int) - 1 - i = (k : Int) := by omega
      rw [ek] at e9
      obtain ⟨bi, hbi⟩ : ∃ b, l0[i]? = some b := ⟨_, List.getElem?_eq_getElem (by omega)⟩
      obtain ⟨bk, hbk⟩ : ∃ b, l0[k]? = some b := ⟨_, List.getElem?_eq_getElem hkn⟩
      have gi : L[i]? = some bi := by rw [hp i (by omega), if_neg (by omega), hbi]
      have gk : L[k]? = some bk := by rw [hp k hkn, if_neg (by omega), hbk]
      have ci : (Go.Abs.bytes L)[i * 1]? = some (.int .u8 (bi.toNat : Int)) := by rw [Nat.mul_one, bytes_get, gi]; rfl
      have ck : (Go.Abs.bytes L)[k * 1]? = some (.int .u8 (bk.toNat : Int)) := by rw [Nat.mul_one, bytes_get, gk]; rfl
      have x1 := ixsA_row ow.row (j := k) (by omega)
      have x2 := ixsA_row ow.row (j := i) (by omega)
      have y1 := loadA_row ow.row (j := k) (by omega) (ag := false) (k := 1) (by omega) ck (by omega)
      have y2 := loadA_row ow.row (j := i) (by omega) (ag := false) (k := 1) (by omega) ci (by omega)
      have st1 := storeA_elem ow (j := i) (by omega) (by omega) (.int .u8 (bk.toNat : Int))
      obtain ⟨h1', hh1⟩ : ∃ h1' : Heap, h1' = storeH hh x (i * 1) (.int .u8 (bk.toNat : Int)) := ⟨_, rfl⟩
      have ow1 : Own h1' x 5 1 L.length (Go.Abs.bytes (L.set i bk)) := by
        have := storeH_own ow (i := i * 1) (by omega) (.int .u8 (bk.toNat : Int))
        rw [← hh1, Nat.mul_one, ← bytes_set] at this
        exact this
      have m1 : Mod (blk x) hh h1' := by rw [hh1]; exact storeH_mod _ _
      have x3 := ixsA_row ow1.row (j := k) (by omega)
      have st2 := storeA_elem ow1 (j := k) (by omega) (by omega) (.int .u8 (bi.toNat : Int))
      obtain ⟨h2', hh2⟩ : ∃ h2' : Heap, h2' = storeH h1' x (k * 1) (.int .u8 (bi.toNat : Int)) := ⟨_, rfl⟩
      have ow2 : Own h2' x 5 1 ((L.set i bk).set k bi).length (Go.Abs.bytes ((L.set i bk).set k bi)) := by
        have := storeH_own ow1 (i := k * 1) (by omega) (.int .u8 (bi.toNat : Int))
        rw [← hh2, Nat.mul_one, ← bytes_set] at this
        simpa using this
      have m2 : Mod (blk x) h1' h2' := by rw [hh2]; exact storeH_mod _ _
      rw [← hh1] at st1
      rw [← hh2] at st2
      have hp' : ∀ t, t < l0.length → ((L.set i bk).set k bi)[t]? = if t < i + 1 ∨ l0.length < t + 1 + (i + 1) then l0[l0.length - 1 - t]? else l0[t]? := by
        intro t ht
        rw [List.getElem?_set, List.getElem?_set]
        by_cases tk : k = t
        · subst tk
          rw [if_pos rfl, if_pos (by simp; omega), if_pos (by omega)]
          have : l0.length - 1 - k = i := by omega
          rw [this, hbi]
        · rw [if_neg tk]
          by_cases ti : i = t
          · subst ti
            rw [if_pos rfl, if_pos (by omega), if_pos (by omega), ← hk, hbk]
          · rw [if_neg ti, hp t ht]
            by_cases c : t < i ∨ l0.length < t + 1 + i
            · rw [if_pos c, if_pos (by omega)]
            · rw [if_neg c, if_neg (by omega)]
      have w1 : IntKind.i64.wrap ((i : Int) + 1) = (i : Int) + 1 := wi64 (by omega) (by omega)
      have w2 : IntKind.i64.wrap ((k : Int) - 1) = (k : Int) - 1 := wi64 (by omega) (by omega)
      obtain ⟨e', h', r1, r2, r3, r4⟩ := ih (i + 1) _ h2' [(6, [.sc x]), (8, [.sc (.int .i64 ((i + 1 : Nat) : Int))]), (9, [.sc (.int .i64 ((k : Int) - 1))])] (by simp [hL]) (by omega) (by omega) hp' ow2 rfl rfl (by
        have : (k : Int) - 1 = (l0.length : Int) - 1 - ((i + 1 : Nat) : Int) := by omega
        rw [this]; rfl)
      have c1 : (i : Int) < k := by omega
      have c1' : i < k := hik
      refine ⟨e', h', stepM (fun R RO RD RT E => ?_) r1, r2, r3, (m1.trans m2 fun _ _ h => h).trans r4 fun _ _ h => h⟩
      clear r1 r2 r3 r4 ih hp hp' hh1 hh2
      simp [M.b72_0, E.eqs, e6, e8, e9, c1, c1', x1, x2, x3, y1, y2, st1, st2, w1, w2]
    · have hrev : L = l0.reverse := by
        apply List.ext_getElem?
        intro t
        by_cases ht : t < l0.length
        · rw [hp t ht, List.getElem?_reverse ht]
          split
          · rfl
          · congr 1; omega
        · rw [List.getElem?_eq_none (by omega), List.getElem?_eq_none (by simp; omega)]
      subst hrev
      rw [hL] at ow
      have c1 : ¬ (i : Int) < (l0.length : Int) - 1 - i := by omega
      refine ⟨[(6, [.sc x]), (8, [.sc (.int .i64 i)]), (9, [.sc (.int .i64 ((l0.length : Int) - 1 - i))]), (43, [.sc (.bool false)])], hh, exitM fun R RO RD RT E => ?_, rfl, ow, Mod.refl _ _⟩
      simp [M.b72_0, E.eqs, e6, e8, e9, c1]

set_option maxHeartbeats 1000000 in
theorem spec72 (h : Heap) {n : Int} (hn : InW n) : call 72 [[W n]] h = some ([.sc (.str (wtxt n))], h) := by
  have s1 := fun h => spec87 h hn
  have hA : n.natAbs < 340282366920938463463374607431768211456 := by unfold InW at hn; omega
  have hl := txt_length hn.abs60 (by decide)
  have hdl : (digs n.natAbs).length ≤ 60 := by unfold txt at hl; simpa using hl
  have b4 : ([.int .u64 ((n.natAbs % 18446744073709551616 : Nat) : Int), .int .u64 ((n.natAbs / 18446744073709551616 : Nat) : Int), .int .u64 0, .int .u64 0] : List SV) = l4 n.natAbs :=
    (l4_of (a0 := n.natAbs % 18446744073709551616) (a1 := n.natAbs / 18446744073709551616) (a2 := 0) (a3 := 0) (by omega) (by omega) (by omega) (by omega) (by omega)).symm
  obtain ⟨ahi, alo, e1, e2, e3, e4, e5⟩ := W_of hn
  have e1' := AV.agg.inj e1
  obtain ⟨ea, h1, x1, lo1, p1, p6, ow1, m1, n1⟩ := text_loop (t1 := [.sc (.ptr h.length 0 2)]) (j := h.length + 1) n.natAbs [] .nils (h ++ [⟨.var, [.int .i64 ahi, .int .u64 (alo : Int)]⟩, ⟨.var, l4 n.natAbs⟩]) [(1, [.sc (.ptr h.length 0 2)]), (5, [.sc (.ptr (h.length + 1) 0 4)]), (6, [.sc .nils])] (by omega) (by simp; omega) (by simp) (.inl ⟨rfl, rfl, rfl⟩) (fun h => h) rfl rfl rfl
  rw [List.nil_append] at ow1
  have k1 : h1[h.length]? = some ⟨.var, [.int .i64 ahi, .int .u64 (alo : Int)]⟩ := m1.get (by simp) (by
    rintro (e | e)
    · omega
    · exact e)
  have M0 : Mod (fun j => h.length ≤ j) h h1 := (Mod.app (fun _ => False) h _).trans m1 (fun j hj hs => by
    rcases hs with e | e
    · omega
    · exact e.elim) |>.mono fun _ _ h => h.elim
  have nw1 : ∀ k, blk x1 k → h.length ≤ k := fun k hk => by
    rcases n1 k hk with e | e
    · exact e.elim
    · simp at e; omega
  rw [e1] at s1 ⊢
  have lo1 := loop_run lo1
  generalize n.natAbs % 18446744073709551616 = lo64 at *
  generalize n.natAbs / 18446744073709551616 = hi64 at *
  refine callX rfl (by rfl : F 72 = some M.a72) (fun R RO RD RT E => ?_)
  have lo1 := E.run lo1
  have dlen : (digs n.natAbs).length = (txt n.natAbs).length := by simp [txt]
  by_cases hneg : n < 0
  · have c1 : ahi < 0 := by omega
    have wt : wtxt n = (digs n.natAbs ++ [45]).reverse := by unfold wtxt txt; rw [if_pos hneg]; simp
    obtain ⟨a1, ow2, m2, n2⟩ := own_app1 ow1 45 (by simp [lim]; omega)
    have z45 : (((45 : UInt8).toNat : Nat) : Int) = 45 := rfl
    rw [z45] at a1 ow2 m2
    generalize appH h1 x1 5 1 1 [.int .u8 45] = h2 at *
    generalize appV h1 x1 1 1 = x2 at *
    have ln := lenA_row ow2.row
    generalize digs n.natAbs = ds at *
    obtain ⟨eb, h3, lo2, q6, ow3, m3⟩ := rev_loop (x := x2) (l0 := ds ++ [45]) (by simp; omega) (ds ++ [45]).length 0 (ds ++ [45]) h2 [(6, [.sc x2]), (8, [.sc (.int .i64 0)]), (9, [.sc (.int .i64 (((ds ++ [45]).length : Int) - 1))])] rfl (by omega) (by omega) (fun t ht => by rw [if_neg (by omega)]) ow2 rfl rfl (by simp)
    have lo2 := E.run (loop_run lo2)
    have bs := b2sA_row (l := (ds ++ [45]).reverse) ow3.row
    rw [← wt] at bs
    have tm : trim h h3 [.sc (.str (wtxt n))] = h := trim_mod (S := fun j => h.length ≤ j) (by simp [pureT, pureV, pureS]) ((M0.trans (m2.mono fun j _ hj => (show h.length ≤ j from nw1 j hj)) fun _ _ h => h).trans (m3.mono fun j _ hj => show h.length ≤ j from (n2 j hj).elim (nw1 j) (fun e => Nat.le_trans M0.1 e)) fun _ _ h => h) fun j hj hs => by omega
    have dl1 : (ds ++ [45]).length < 1048576 := by simp; omega
    have w1 : IntKind.i64.wrap (((ds ++ [45]).length : Int) - 1) = ((ds ++ [45]).length : Int) - 1 := wi64 (by omega) (by omega)
    clear dl1
    generalize (ds ++ [45]).length = nn at *
    generalize wtxt n = res at *
    clear M0 m1 m2 m3 n1 n2 ow1 ow2 ow3 hdl dlen hl wt nw1
    simp [M.a72, E.eqs, s1, b4, lo1, p1, p6, k1, c1, a1, ln, w1, lo2, q6, bs, tm, fldA, freshB, loadA, storeA]
  · have c1 : ¬ ahi < 0 := by omega
    have wt : wtxt n = (digs n.natAbs).reverse := by unfold wtxt txt; rw [if_neg hneg]
    have ln := lenA_row ow1.row
    generalize digs n.natAbs = ds at *
    obtain ⟨eb, h3, lo2, q6, ow3, m3⟩ := rev_loop (x := x1) (l0 := ds) (by omega) ds.length 0 ds h1 [(6, [.sc x1]), (8, [.sc (.int .i64 0)]), (9, [.sc (.int .i64 ((ds.length : Int) - 1))])] rfl (by omega) (by omega) (fun t ht => by rw [if_neg (by omega)]) ow1 rfl rfl (by simp)
    have lo2 := E.run (loop_run lo2)
    have bs := b2sA_row (l := ds.reverse) ow3.row
    rw [← wt] at bs
    have tm : trim h h3 [.sc (.str (wtxt n))] = h := trim_mod (S := fun j => h.length ≤ j) (by simp [pureT, pureV, pureS]) (M0.trans (m3.mono fun j _ hj => nw1 j hj) fun _ _ h => h) fun j hj hs => by omega
    have w1 : IntKind.i64.wrap ((ds.length : Int) - 1) = (ds.length : Int) - 1 := wi64 (by omega) (by omega)
    generalize ds.length = nn at *
    generalize wtxt n = res at *
    clear M0 m1 m3 n1 ow1 ow3 hdl dlen hl wt nw1
    simp [M.a72, E.eqs, s1, b4, lo1, p1, p6, k1, c1, ln, w1, lo2, q6, bs, tm, fldA, freshB, loadA, storeA]
end Go.Proofs.Ytdodhmidhcpnnaa
