/- PackOne: the law's call says true, of any bytes and kinds. -/
import Derived.Test.YtokdnndocipilaaSI
import Derived.Test.YtokdnndocipilaaSG
set_option linter.unusedVariables false
set_option linter.unusedSimpArgs false
set_option maxRecDepth 100000
namespace Go.Proofs.Ytokdnndocipilaa.lawPackOne
open Go.Abs

/-- what is read as a number is laid as the same bytes -/
theorem canon : ∀ (t : List UInt8) (k m v j : Nat), numD t k m = (v, 0, j) → k ≤ 9 → k ≤ j ∧ ∃ n, v = m + n * 2 ^ (7 * k) ∧ t.take (j - k) = numB n ∧ (0 < k → 0 < n)
  | [], k, m, v, j, h, hk => by simp [numD] at h
  | x :: t, k, m, v, j, h, hk => by
    have hx := x.toNat_lt
    unfold numD at h
    split at h
    · simp at h
    · split at h
      · rename_i h9 h128
        obtain ⟨h1, n, h2, h3, h4⟩ := canon t (k + 1) _ v j h (by omega)
        have h4 := h4 (by omega)
        refine ⟨by omega, x.toNat % 128 + 128 * n, ?_, ?_, fun _ => by omega⟩
        · rw [h2]
          have hp : 2 ^ (7 * (k + 1)) = 128 * 2 ^ (7 * k) := by rw [Nat.mul_add, Nat.pow_add, Nat.mul_comm]
          rw [hp, Nat.add_mul]
          grind
        · rw [numB_big (by omega), show j - k = (j - (k + 1)) + 1 by omega, List.take_succ_cons, h3]
          have e1 : (x.toNat % 128 + 128 * n) % 128 + 128 = x.toNat := by omega
          have e2 : (x.toNat % 128 + 128 * n) / 128 = n := by omega
          rw [e1, e2, UInt8.ofNat_toNat]
      · rename_i h9 h128
        split at h
        · simp at h
        · rename_i h0
          simp only [Prod.mk.injEq, true_and] at h
          obtain ⟨h, rfl⟩ := h
          refine ⟨by omega, x.toNat, by rw [← h, Nat.mod_eq_of_lt (by omega)], ?_, fun hk => by omega⟩
          rw [numB_small (by omega), show k + 1 - k = 1 by omega, UInt8.ofNat_toNat]
          rfl

theorem take_more (L : List UInt8) {a b : Nat} (h : a ≤ b) : L.take b = L.take a ++ (L.drop a).take (b - a) := by
  rw [← List.take_append_drop a (L.take b), List.take_take, Nat.min_eq_left h, List.drop_take]

theorem num_canon {L : List UInt8} {a most n a' : Nat} (h : rNum L a 0 most = (n, a', 0)) : L.take a' = L.take a ++ numB n := by
  unfold rNum rN at h
  have hs := numD_drop L a
  generalize hD : numD (L.drop a) 0 0 = D at *
  obtain ⟨v, e, j⟩ := D
  simp only [ne_eq, not_true_eq_false, if_false] at h hs
  split at h
  · rename_i he
    injection h with _ h
    injection h with _ h
    exact absurd h he
  · rename_i he
    split at h
    · simp at h
    · simp only [Prod.mk.injEq, and_true] at h
      obtain ⟨rfl, rfl⟩ := h
      have he : e = 0 := by omega
      subst he
      obtain ⟨_, n, h2, h3, _⟩ := canon _ _ _ _ _ hD (by omega)
      simp at h2 h3
      subst h2
      rw [take_more L (Nat.le_add_right a j), Nat.add_sub_cancel_left, h3]
theorem text_canon {L T : List UInt8} {a a' : Nat} {most : Int} (ha : a ≤ L.length) (h : rText L a 0 most = (T, a', 0)) : L.take a' = L.take a ++ (numB T.length ++ T) := by
  unfold rText at h
  have hlt := rNum_lt L a 0 (max most 0).toNat
  generalize hR : rNum L a 0 (max most 0).toNat = R at *
  obtain ⟨n, b, e⟩ := R
  simp only at h hlt
  split at h
  · rename_i he
    injection h with _ h
    injection h with _ h
    exact absurd h he
  · rename_i he
    have he : e = 0 := by omega
    subst he
    split at h
    · simp at h
    · simp only [Prod.mk.injEq, and_true] at h
      obtain ⟨rfl, rfl⟩ := h
      have := hlt.2.1 ha
      have hl : ((L.drop b).take n).length = n := by simp; omega
      rw [hl, take_more L (Nat.le_add_right b n), Nat.add_sub_cancel_left, num_canon hR, List.append_assoc]
theorem byte_canon {L : List UInt8} {a v a' : Nat} (h : rByte L a 0 255 = (v, a', 0)) : L.take a' = L.take a ++ [UInt8.ofNat v] := by
  unfold rByte at h
  simp only [ne_eq, not_true_eq_false, if_false] at h
  split at h
  · simp at h
  · rename_i b hb
    split at h
    · simp at h
    · simp only [Prod.mk.injEq, and_true] at h
      obtain ⟨rfl, rfl⟩ := h
      rw [UInt8.ofNat_toNat, List.take_add_one, hb]
      rfl
theorem zz_of_unzz {n : Nat} : zz (unzz n) = n := by
  unfold zz unzz
  split <;> split <;> omega
theorem unzz_lt {n : Nat} (h : n < 18446744073709551616) : -9223372036854775808 ≤ unzz n ∧ unzz n < 9223372036854775808 := by
  unfold unzz
  split <;> omega

def wsC (ws : List Int) : List SV := ws.map fun w => .int .i64 w

/-- a reader of L, and what it gave, kept as lays -/
structure OI (h : Heap) (xb xw y1 x : SV) (i : Nat) (L : List UInt8) (ws : List Int) (l : List Lay) (a bad : Nat) : Prop where
  rb : Row h xb 1 L.length (Go.Abs.bytes L)
  rw : Row h xw 1 ws.length (wsC ws)
  rd : Rd h i y1 L a bad
  own : Own h x 30 5 l.length (layC l)
  ok : ∀ z ∈ l, z.ok h
  d : ∀ j, (blk xb j ∨ blk xw j ∨ blk y1 j ∨ ∃ z ∈ l, blk z.x j) → j ≠ i ∧ ¬ blk x j
  xi : ¬ blk x i
  st : bad = 0 → laidB l = L.take a
  sz : sizeL l ≤ (laidB l).length

theorem layC_snoc (l : List Lay) (z : Lay) : layC (l ++ [z]) = layC l ++ z.cells := by simp [layC]
theorem laidB_snoc (l : List Lay) (z : Lay) : laidB (l ++ [z]) = laidB l ++ layB z := by simp [laidB]

/-- the body's end: what was read (in heap G, the new lay in block p) is appended -/
theorem OI.push {h G : Heap} {xb xw y1 x : SV} {i : Nat} {L : List UInt8} {ws : List Int} {l : List Lay} {a bad a' bad' : Nat} (s : OI h xb xw y1 x i L ws l a bad) (B : Blk) (z : Lay)
    (rd : Rd G i y1 L a' bad') (m : Mod (fun j => j = i) (h ++ [B]) G) (hok : z.ok G) (hzx : ∀ j, blk z.x j → h.length < j) (hl : l.length ≤ 2 ^ 40) (st : bad' = 0 → laidB l ++ layB z = L.take a') (hz : z.t.length ≤ (layB z).length) :
    appA (G.set h.length ⟨.var, z.cells⟩) 30 5 56 (.sc x) (.imm 1 z.cells) = some ([.sc (appV (G.set h.length ⟨.var, z.cells⟩) x 5 1)], appH (G.set h.length ⟨.var, z.cells⟩) x 30 5 1 z.cells) ∧
    OI (appH (G.set h.length ⟨.var, z.cells⟩) x 30 5 1 z.cells) xb xw y1 (appV (G.set h.length ⟨.var, z.cells⟩) x 5 1) i L ws (l ++ [z]) a' bad' := by
  have hi := s.rd.lt
  have mb : Mod (fun j => j = h.length) G (G.set h.length ⟨.var, z.cells⟩) := Mod.set _ _ rfl
  have mh : Mod (fun j => j = i ∨ j = h.length) h (G.set h.length ⟨.var, z.cells⟩) := (((Mod.app (fun j => j = i) h [B]).trans m fun _ _ h => h).mono fun j _ e => Or.inl e).trans mb fun j _ e => .inr e
  have o1 : Own (G.set h.length ⟨.var, z.cells⟩) x 30 5 l.length (layC l) := s.own.mod mh fun j hj e => by
    have := s.own.lt j hj
    rcases e with rfl | rfl
    · exact s.xi hj
    · omega
  have hGl : h.length + 1 ≤ G.length := by have := m.1; simpa using this
  have ma : Mod (blk x) (G.set h.length ⟨.var, z.cells⟩) (appH (G.set h.length ⟨.var, z.cells⟩) x 30 5 1 z.cells) := app_mod
  have old : ∀ {y : SV} {sz n : Nat} {cs : List SV}, Row h y sz n cs → (∀ j, blk y j → j ≠ i ∧ ¬ blk x j) → Row (appH (G.set h.length ⟨.var, z.cells⟩) x 30 5 1 z.cells) y sz n cs := fun hy hd => (hy.mod mh fun j hj e => by
    have := hy.lt j hj
    rcases e with rfl | rfl
    · exact (hd _ hj).1 rfl
    · omega).mod ma fun j hj => (hd j hj).2
  refine ⟨appA_own o1 rfl (by simp [lim]; omega), ⟨old s.rb fun j hj => s.d j (.inl hj), old s.rw fun j hj => s.d j (.inr (.inl hj)), ?_, ?_, ?_, ?_, ?_, ?_, ?_⟩⟩
  · refine (rd.other mb (by omega) fun j hj e => ?_).other ma s.xi fun j hj => (s.d j (.inr (.inr (.inl hj)))).2
    have := s.rd.row.lt j hj
    omega
  · have := app_own (e := 30) o1 (m := 1) (ys := z.cells) rfl
    rw [layC_snoc, List.length_append]
    exact this
  · intro y hy
    rcases List.mem_append.1 hy with h1 | h1
    · obtain ⟨b1, b2, b3, b4⟩ := s.ok y h1
      exact ⟨b1, b2, b3, old b4 fun j hj => s.d j (.inr (.inr (.inr ⟨y, h1, hj⟩)))⟩
    · simp at h1
      subst h1
      obtain ⟨b1, b2, b3, b4⟩ := hok
      refine ⟨b1, b2, b3, (b4.mod mb fun j hj e => ?_).mod ma fun j hj e => ?_⟩
      · have := hzx j hj; omega
      · have := hzx j hj
        have := s.own.lt j e
        omega
  · intro j hj
    have nx : ∀ j, blk (appV (G.set h.length ⟨.var, z.cells⟩) x 5 1) j → blk x j ∨ j = G.length := fun j hj => by
      rcases blk_app j hj with h1 | h1
      · exact .inl h1
      · exact .inr (by simpa using h1)
    rcases hj with hj | hj | hj | ⟨y, hy, hj⟩
    · have h1 := s.d j (.inl hj)
      have h2 := s.rb.lt j hj
      exact ⟨h1.1, fun e => (nx j e).elim h1.2 (by omega)⟩
    · have h1 := s.d j (.inr (.inl hj))
      have h2 := s.rw.lt j hj
      exact ⟨h1.1, fun e => (nx j e).elim h1.2 (by omega)⟩
    · have h1 := s.d j (.inr (.inr (.inl hj)))
      have h2 := s.rd.row.lt j hj
      exact ⟨h1.1, fun e => (nx j e).elim h1.2 (by omega)⟩
    · rcases List.mem_append.1 hy with h1 | h1
      · have h2 := s.d j (.inr (.inr (.inr ⟨y, h1, hj⟩)))
        have h3 := (s.ok y h1).2.2.2.lt j hj
        exact ⟨h2.1, fun e => (nx j e).elim h2.2 (by omega)⟩
      · simp at h1
        subst h1
        have h2 := hzx j hj
        have h3 := hok.2.2.2.lt j hj
        refine ⟨by omega, fun e => ?_⟩
        rcases nx j e with e | e
        · have := s.own.lt j e; omega
        · omega
  · intro e
    rcases blk_app i e with h1 | h1
    · exact s.xi h1
    · simp at h1; omega
  · intro hb
    rw [laidB_snoc]
    exact st hb
  · rw [laidB_snoc, List.length_append]
    have := s.sz
    simp only [sizeL, List.map_append, List.sum_append, List.map_cons, List.map_nil, List.sum_cons, List.sum_nil] at this ⊢
    omega

/-- a block of five cells, in whatever heap -/
theorem blk5 {G : Heap} {p : Nat} {c : List SV} (hp : G[p]? = some ⟨.var, c⟩) (hc : c.length = 5) :
    (∀ off, fldA G off [.sc (.ptr p 0 5)] = some ([.sc (.ptr p off 5)], G)) ∧ (∀ (v : SV) off, off < 5 → storeA G 1 [.sc (.ptr p off 5)] [.sc v] = some ([], G.set p ⟨.var, c.set off v⟩)) ∧
    (∀ c' : List SV, c'.length = 5 → loadA (G.set p ⟨.var, c'⟩) true 5 [.sc (.ptr p 0 5)] = some ([.agg c'], G.set p ⟨.var, c'⟩)) := by
  refine ⟨fun off => by simp [fldA, freshB, hp, hc], fun v off ho => by simp [storeA, hp, hc]; omega, fun c' hc' => ?_⟩
  have : (G.set p ⟨.var, c'⟩)[p]? = some ⟨.var, c'⟩ := get_set_same hp
  simp only [loadA, this]
  rw [if_pos ⟨by simp [hc'], by simp [hc']⟩]
  simp [hc', List.take_of_length_le]

theorem one_step {h : Heap} {xb xw y1 x : SV} {i : Nat} {L : List UInt8} {ws : List Int} {l : List Lay} {a bad : Nat} (s : OI h xb xw y1 x i L ws l a bad) (hws : ∀ w ∈ ws, -9223372036854775808 ≤ w ∧ w < 9223372036854775808) (hwl : ws.length ≤ 2 ^ 40) (hll : l.length ≤ 2 ^ 40) {k : Nat} {w0 : Int} (hw : ws[k]? = some w0) {e : Env}
    (e0 : e.get 0 = [.sc xb]) (e1 : e.get 1 = [.sc xw]) (e5 : e.get 5 = [.sc (.ptr i 0 3)]) (e6 : e.get 6 = [.sc x]) (e7 : e.get 7 = [.sc (.int .i64 k)]) :
    ∃ h' x' z a' bad', (∀ R RO RD RT, Mach F O R RO RD RT → R M.b10_0 (keep [0, 1, 5, 6, 7] e) h = some (.normal, [(0, [.sc xb]), (1, [.sc xw]), (5, [.sc (.ptr i 0 3)]), (6, [.sc x']), (7, [.sc (.int .i64 ((k + 1 : Nat) : Int))])], h')) ∧ OI h' xb xw y1 x' i L ws (l ++ [z]) a' bad' := by
  have hk : k < ws.length := (List.getElem?_eq_some_iff.1 hw).1
  obtain ⟨zw1, zw2⟩ := hws w0 (List.mem_of_getElem? hw)
  have ln := lenA_row s.rw
  have i1 := ixsA_row s.rw hk
  have i2 := loadA_row s.rw hk (ag := false) (k := 1) (by omega) (v := .int .i64 w0) (by rw [Nat.mul_one]; unfold wsC; rw [List.getElem?_map, hw]; rfl) (by omega)
  have c1 : (k : Int) < ws.length := by omega
  have w1 : IntKind.i64.wrap ((k : Int) + 1) = (k : Int) + 1 := wi64 (by omega) (by omega)
  have pk := spec14 h (n := w0) (m := 4) (by omega) (by omega) zw1 zw2
  have p0 := Int.emod_nonneg w0 (b := 4) (by omega)
  have p5 := Int.emod_lt_of_pos w0 (b := 4) (by omega)
  generalize w0 % 4 = w at *
  have hw4 : w % 4 = w := by omega
  have s5 : ∀ (c : List SV), c.length = 5 → storeA (h ++ [⟨.var, [.int .i64 0, .int .u8 0, .int .u64 0, .int .i64 0, .nils]⟩]) 5 [.sc (.ptr h.length 0 5)] [.agg c] = some ([], h ++ [⟨.var, c⟩]) := fun c hc => by
    match c, hc with
    | [a, b, c, d, e], _ => simp [storeA]
  have f5 : ∀ (c : List SV), c.length = 5 → ∀ off, fldA (h ++ [⟨.var, c⟩]) off [.sc (.ptr h.length 0 5)] = some ([.sc (.ptr h.length off 5)], h ++ [⟨.var, c⟩]) := fun c hc off => by simp [fldA, freshB, hc]
  have l5 : ∀ (a b c d e : SV), loadA (h ++ [⟨.var, [a, b, c, d, e]⟩]) false 1 [.sc (.ptr h.length 0 5)] = some ([.sc a], h ++ [⟨.var, [a, b, c, d, e]⟩]) := fun a b c d e => by simp [loadA]
  have hi := s.rd.lt
  have rd := s.rd.app [⟨.var, [.int .i64 w, .int .u8 0, .int .u64 0, .int .i64 0, .nils]⟩]
  have hGp : ∀ (a' b' : Nat), (setR (h ++ [⟨.var, [.int .i64 w, .int .u8 0, .int .u64 0, .int .i64 0, .nils]⟩]) i y1 a' b')[h.length]? = some ⟨.var, [.int .i64 w, .int .u8 0, .int .u64 0, .int .i64 0, .nils]⟩ := fun a' b' => by
    unfold setR
    rw [get_set_other (by omega)]
    exact get_loc0 h _
  have hst := s.st
  have hWw : w = 0 ∨ w = 1 ∨ w = 3 ∨ w = 2 := by omega
  rcases hWw with rfl | rfl | rfl | rfl
  · have s1 := spec32 rd (most := 255) (by omega)
    obtain ⟨b1, b2, b3⟩ := rByte_lt L a bad 255
    have hcan : (rByte L a bad 255).2.2 = 0 → laidB l ++ [UInt8.ofNat (rByte L a bad 255).1] = L.take (rByte L a bad 255).2.1 := fun hb => by
      by_cases hbad : bad = 0
      · subst hbad
        rw [hst rfl]
        exact (byte_canon (Prod.ext rfl (Prod.ext rfl hb))).symm
      · unfold rByte at hb
        simp [hbad] at hb
    generalize rByte L a bad 255 = D at *
    obtain ⟨v, a', b'⟩ := D
    simp only at s1 b1 b2 b3 hcan
    obtain ⟨vb, hvb⟩ : ∃ vb : UInt8, vb.toNat = v := ⟨UInt8.ofNat v, by rw [UInt8.toNat_ofNat']; omega⟩
    subst hvb
    rw [UInt8.ofNat_toNat] at hcan
    obtain ⟨q1, q2, q3⟩ := blk5 (hGp a' b') rfl
    obtain ⟨ap, oi⟩ := s.push _ ⟨0, vb, 0, 0, .nils, []⟩ (rd.set (b1 s.rd.le) (b2 s.rd.small)) (setR_mod _ i y1 a' b') ⟨⟨by simp only; omega, by simp only; omega⟩, by simp only; omega, ⟨by simp only; omega, by simp only; omega⟩, .inl ⟨rfl, rfl, rfl⟩⟩ (fun j hj => hj.elim) hll (by simpa [layB] using hcan) (by simp)
    refine ⟨_, _, _, a', b', fun R RO RD RT E => ?_, oi⟩
    simp [Lay.cells] at ap
    simp at s1
    simp [M.b10_0, E.eqs, e0, e1, e5, e6, e7, ln, i1, i2, c1, w1, pk, s5, f5, l5, s1, q1, q2, q3, ap, Lay.cells]
  · have s1 := spec33 rd (most := 18446744073709551615) (by omega)
    obtain ⟨b0, b1, b2, b3⟩ := rNum_lt L a bad 18446744073709551615
    have hcan : (rNum L a bad 18446744073709551615).2.2 = 0 → laidB l ++ numB (rNum L a bad 18446744073709551615).1 = L.take (rNum L a bad 18446744073709551615).2.1 := fun hb => by
      obtain ⟨_, rfl⟩ := b3 hb
      rw [hst rfl]
      exact (num_canon (most := 18446744073709551615) (Prod.ext rfl (Prod.ext rfl hb))).symm
    generalize rNum L a bad 18446744073709551615 = D at *
    obtain ⟨v, a', b'⟩ := D
    simp only at s1 b0 b1 b2 b3 hcan
    obtain ⟨q1, q2, q3⟩ := blk5 (hGp a' b') rfl
    obtain ⟨ap, oi⟩ := s.push _ ⟨1, 0, v, 0, .nils, []⟩ (rd.set (b1 s.rd.le) (b2 s.rd.small)) (setR_mod _ i y1 a' b') ⟨⟨by simp only; omega, by simp only; omega⟩, b0, ⟨by simp only; omega, by simp only; omega⟩, .inl ⟨rfl, rfl, rfl⟩⟩ (fun j hj => hj.elim) hll (by simpa [layB] using hcan) (by simp)
    refine ⟨_, _, _, a', b', fun R RO RD RT E => ?_, oi⟩
    simp [Lay.cells] at ap
    simp at s1
    simp [M.b10_0, E.eqs, e0, e1, e5, e6, e7, ln, i1, i2, c1, w1, pk, s5, f5, l5, s1, q1, q2, q3, ap, Lay.cells]
  · have s1 := spec34 rd
    obtain ⟨b0, b1, b2, b3⟩ := rNum_lt L a bad 18446744073709551615
    have hcan : (rNum L a bad 18446744073709551615).2.2 = 0 → laidB l ++ numB (zz (unzz (rNum L a bad 18446744073709551615).1)) = L.take (rNum L a bad 18446744073709551615).2.1 := fun hb => by
      obtain ⟨_, rfl⟩ := b3 hb
      rw [hst rfl, zz_of_unzz]
      exact (num_canon (most := 18446744073709551615) (Prod.ext rfl (Prod.ext rfl hb))).symm
    generalize rNum L a bad 18446744073709551615 = D at *
    obtain ⟨v, a', b'⟩ := D
    simp only at s1 b0 b1 b2 b3 hcan
    have hu := unzz_lt b0
    obtain ⟨q1, q2, q3⟩ := blk5 (hGp a' b') rfl
    obtain ⟨ap, oi⟩ := s.push _ ⟨3, 0, 0, unzz v, .nils, []⟩ (rd.set (b1 s.rd.le) (b2 s.rd.small)) (setR_mod _ i y1 a' b') ⟨⟨by simp only; omega, by simp only; omega⟩, by simp only; omega, hu, .inl ⟨rfl, rfl, rfl⟩⟩ (fun j hj => hj.elim) hll (by simpa [layB] using hcan) (by simp)
    refine ⟨_, _, _, a', b', fun R RO RD RT E => ?_, oi⟩
    simp [Lay.cells] at ap
    simp [M.b10_0, E.eqs, e0, e1, e5, e6, e7, ln, i1, i2, c1, w1, pk, s5, f5, l5, s1, q1, q2, q3, ap, Lay.cells]
  · have hL := s.rd.len
    have lb : lenA (h ++ [⟨.var, [.int .i64 2, .int .u8 0, .int .u64 0, .int .i64 0, .nils]⟩]) [.sc xb] = _ := lenA_row (s.rb.mod (Mod.app (fun _ => False) h _) fun _ _ h => h)
    obtain ⟨h1, y, s1, t1⟩ := spec35 rd (most := (L.length : Int)) (by omega) (by omega)
    have hcan : (rText L a bad L.length).2.2 = 0 → laidB l ++ (numB (rText L a bad L.length).1.length ++ (rText L a bad L.length).1) = L.take (rText L a bad L.length).2.1 := fun hb => by
      by_cases hbad : bad = 0
      · subst hbad
        rw [hst rfl]
        exact (text_canon s.rd.le (Prod.ext rfl (Prod.ext rfl hb))).symm
      · unfold rText rNum at hb
        simp [hbad] at hb
    generalize rText L a bad L.length = D at *
    obtain ⟨T, a', b'⟩ := D
    simp only at t1 hcan
    have hG : h1[h.length]? = some ⟨.var, [.int .i64 2, .int .u8 0, .int .u64 0, .int .i64 0, .nils]⟩ := t1.mod.get (get_loc0 h _) (by omega)
    obtain ⟨q1, q2, q3⟩ := blk5 hG rfl
    obtain ⟨ap, oi⟩ := s.push _ ⟨2, 0, 0, 0, y, T⟩ t1.rd t1.mod ⟨⟨by simp only; omega, by simp only; omega⟩, by simp only; omega, ⟨by simp only; omega, by simp only; omega⟩, t1.own.row⟩ (fun j hj => by have := t1.new j hj; simp at this; omega) hll (by simpa [layB] using hcan) (by simp [layB])
    refine ⟨_, _, _, a', b', fun R RO RD RT E => ?_, oi⟩
    simp [Lay.cells] at ap
    simp [M.b10_0, E.eqs, e0, e1, e5, e6, e7, ln, i1, i2, c1, w1, pk, s5, f5, l5, lb, s1, q1, q2, q3, ap, Lay.cells]

theorem one_loop {xb xw y1 : SV} {i : Nat} {L : List UInt8} {ws : List Int} (hws : ∀ w ∈ ws, -9223372036854775808 ≤ w ∧ w < 9223372036854775808) (hwl : ws.length ≤ 2 ^ 30) : ∀ (m k : Nat) (h : Heap) (x : SV) (l : List Lay) (a bad : Nat) (e : Env), k + m = ws.length → l.length = k → OI h xb xw y1 x i L ws l a bad →
    e.get 0 = [.sc xb] → e.get 1 = [.sc xw] → e.get 5 = [.sc (.ptr i 0 3)] → e.get 6 = [.sc x] → e.get 7 = [.sc (.int .i64 k)] →
    ∃ h' x' l' a' bad', loopE F O (.loop [0, 1, 5, 6, 7] M.b10_0) e h = some (.exit 0, [(0, [.sc xb]), (1, [.sc xw]), (5, [.sc (.ptr i 0 3)]), (6, [.sc x']), (7, [.sc (.int .i64 ws.length)]), (20, [.sc (.bool false)])], h') ∧ OI h' xb xw y1 x' i L ws l' a' bad' ∧ l'.length = ws.length
  | 0, k, h, x, l, a, bad, e, hk, hl, s, e0, e1, e5, e6, e7 => by
    have : k = ws.length := by omega
    subst this
    have ln := lenA_row s.rw
    exact ⟨h, x, l, a, bad, exitM fun R RO RD RT E => by simp [M.b10_0, E.eqs, e0, e1, e5, e6, e7, ln], s, hl⟩
  | m + 1, k, h, x, l, a, bad, e, hk, hl, s, e0, e1, e5, e6, e7 => by
    obtain ⟨w, hw⟩ : ∃ w, ws[k]? = some w := ⟨_, List.getElem?_eq_getElem (by omega)⟩
    obtain ⟨h1, x1, z, a1, b1, st, s1⟩ := one_step s hws (by omega) (by omega) hw e0 e1 e5 e6 e7
    obtain ⟨h2, x2, l2, a2, b2, lo, s2, hl2⟩ := one_loop hws hwl m (k + 1) h1 x1 (l ++ [z]) a1 b1 [(0, [.sc xb]), (1, [.sc xw]), (5, [.sc (.ptr i 0 3)]), (6, [.sc x1]), (7, [.sc (.int .i64 ((k + 1 : Nat) : Int))])] (by omega) (by simp [hl]) s1 rfl rfl rfl rfl rfl
    exact ⟨h2, x2, l2, a2, b2, stepM st lo, s2, hl2⟩

theorem tySlW : Try.prog.underlying 61 = some (.slice 3) := by kernel_rfl
theorem czW : Try.prog.cellsOf 3 = 1 := by kernel_rfl
theorem agSlW : Go.Abs.isAgg Try.prog 61 = false := by kernel_rfl
theorem in_ints {H : Type} {k : Nat} {tv : TV} {d : DataW H} {h : Heap} (hi : In1 Try.prog h (k + 2) 61 tv d) : ∃ (x : SV) (ws : List Int), tv = [.sc x] ∧ Row h x 1 ws.length (wsC ws) ∧ (∀ w ∈ ws, -9223372036854775808 ≤ w ∧ w < 9223372036854775808) ∧ ws.length ≤ Rows.uptoBulk d := by
  obtain ⟨xs, hv, rfl⟩ := in_cell agSlW hi
  rcases View.slice tySlW czW hv with ⟨rfl, rfl⟩ | ⟨b, n, cs, els, rest, rfl, h2, h3, h4, h5, rfl, h7⟩
  · exact ⟨.nils, [], rfl, .inl ⟨rfl, rfl, rfl⟩, by simp, by simp⟩
  · obtain ⟨l, g1, g2, g3⟩ := list_of (cells := fun w : Int => [SV.int .i64 w]) (ok := fun w => -9223372036854775808 ≤ w ∧ w < 9223372036854775808) (sz := 1) n cs h3 fun i hi => by
      obtain ⟨m, hm, hw, _⟩ := View.int tyI (h7 i _ (List.getElem?_eq_getElem (by omega)))
      exact ⟨m, hm, wf_i64 hw⟩
    have g2' : cs = wsC l := by
      rw [g2]
      unfold wsC
      clear g1 g2 g3
      induction l with
      | nil => rfl
      | cons w l ih => simp only [List.map_cons, List.flatten_cons, ih]; rfl
    refine ⟨_, l, rfl, .inr ⟨b, 0, n * 1, _, by rw [g1], h2, by simp [h3], by rw [g1]; omega, rfl, ?_⟩, g3, ?_⟩
    · rw [g1, List.drop_zero, ← h3, List.take_length]
      exact g2'
    · rw [bulk_slice, g1]
      have := bulk_len els
      omega

theorem core {H : Type} (h : Heap) (tvs : List TV) (ds : List (DataW H)) (hr : AllRo h) (hi : Ins Try.prog h 6 [23, 61] tvs ds) (hb : Rows.uptoBulkAll ds ≤ 1048576) : ∃ h', callE F O 10 tvs h = some ([.sc (.bool true)], h') := by
  obtain ⟨tv, d, tvs, ds, rfl, rfl, h1, hi⟩ := ins_cons hi
  obtain ⟨tv2, d2, rfl, rfl, h2⟩ := ins_one hi
  obtain ⟨xb, L, rfl, hx, hl⟩ := in_bytes h1
  obtain ⟨xw, ws, rfl, hw, hws, hwl⟩ := in_ints h2
  simp only [Rows.uptoBulkAll] at hb
  have kn := fun h => spec13 h
  obtain ⟨n1, n2⟩ := spec31 hx (by omega)
  generalize hg2 : h ++ [(⟨.row 5 1, Go.Abs.bytes L⟩ : Blk), ⟨.var, [.sl h.length 0 L.length L.length, .int .i64 0, .int .i64 0]⟩] = g2 at *
  have m2 : Mod (fun _ => False) h g2 := by rw [← hg2]; exact Mod.app _ _ _
  have fr := n2.fresh
  have s0 : OI g2 xb xw (.sl h.length 0 L.length L.length) .nils (h.length + 1) L ws [] 0 0 := by
    refine ⟨hx.mod m2 fun _ _ h => h, hw.mod m2 fun _ _ h => h, n2, .inl ⟨rfl, rfl, rfl⟩, by simp, fun j hj => ⟨?_, fun h => h⟩, fun h => h, fun _ => by simp [laidB], by simp [sizeL]⟩
    rcases hj with hj | hj | hj | ⟨z, hz, _⟩
    · have := hx.lt j hj; omega
    · have := hw.lt j hj; omega
    · have : j = h.length := hj
      omega
    · simp at hz
  obtain ⟨g3, x3, l3, a3, b3, lo, s3, hl3⟩ := one_loop hws (by omega) ws.length 0 g2 .nils [] 0 0 [(0, [.sc xb]), (1, [.sc xw]), (5, [.sc (.ptr (h.length + 1) 0 3)]), (6, [.sc .nils]), (7, [.sc (.int .i64 0)])] (by omega) rfl s0 rfl rfl rfl rfl rfl
  have lo := loop_run lo
  have s1 := spec36 s3.rd
  have u1 := b2sA_row s3.rb
  by_cases hE : rEnd L a3 b3 = 0
  · rw [hE] at s1
    have hb3 : b3 = 0 ∧ a3 = L.length := by
      have := s3.rd.le
      unfold rEnd at hE
      split at hE <;> omega
    have hLB : laidB l3 = L := by
      rw [s3.st hb3.1, hb3.2, List.take_length]
    have hsz := s3.sz
    rw [hLB] at hsz
    obtain ⟨g4, z4, e4, f4⟩ := spec30 s3.own.row (fun z hz => ⟨s3.ok z hz, by have := size_mem hz; omega⟩) (by omega) (by omega)
    rw [hLB] at f4
    have u2 := b2sA_row f4.row
    have u3 := b2sA_row (f4.keep s3.rb)
    refine ⟨_, callX (hh := trim h g4 [.sc (.bool true)]) rfl (by rfl : F 10 = some M.a10) (fun R RO RD RT E => ?_)⟩
    have lo := E.run lo
    simp at s1
    simp [M.a10, E.eqs, n1, kn, fr, lo, s1, e4, u1, u2, u3]
  · have c1 : ¬ (rEnd L a3 b3 : Int) = 0 := by omega
    refine ⟨_, callX (hh := trim h g3 [.sc (.bool true)]) rfl (by rfl : F 10 = some M.a10) (fun R RO RD RT E => ?_)⟩
    have lo := E.run lo
    simp [M.a10, E.eqs, n1, kn, fr, lo, s1, hE, c1, u1]
end Go.Proofs.Ytokdnndocipilaa.lawPackOne
