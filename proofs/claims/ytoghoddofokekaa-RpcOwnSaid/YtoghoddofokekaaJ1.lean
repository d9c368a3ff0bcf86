/- Several chapters in one text. -/
import Derived.Test.YtoghoddofokekaaD4
section
set_option linter.unusedVariables false
set_option linter.unusedSimpArgs false
set_option maxRecDepth 100000
namespace Go.Proofs.Ytoghoddofokekaa
open Go.Abs

theorem entC_snoc (l : List (En × SV)) (z : En × SV) : entC (l ++ [z]) = entC l ++ z.1.c z.2 := by simp [entC]

/-- copies so far: a row of one's own behind h, each with its own data behind h -/
structure CpAt (h H : Heap) (x : SV) (ws : List (En × SV)) : Prop where
  own : Own H x 57 5 ws.length (entC ws)
  mod : Mod (fun _ => False) h H
  new : ∀ j, blk x j → h.length ≤ j
  dat : ∀ w ∈ ws, Row H w.2 1 w.1.T.length (Go.Abs.bytes w.1.T)
  sep : ∀ w ∈ ws, ∀ j, blk w.2 j → h.length ≤ j ∧ ¬ blk x j

/-- one more copy behind -/
theorem CpAt.push {h H H' : Heap} {x : SV} {ws : List (En × SV)} (c : CpAt h H x ws) {z : En × SV} (m : Mod (fun _ => False) H H') (hz : Row H' z.2 1 z.1.T.length (Go.Abs.bytes z.1.T)) (hn : ∀ j, blk z.2 j → H.length ≤ j) (hl : ws.length < 2513169434844) :
    appA H' 57 5 56 (.sc x) (.imm 1 (z.1.c z.2)) = some ([.sc (appV H' x 5 1)], appH H' x 57 5 1 (z.1.c z.2)) ∧ CpAt h (appH H' x 57 5 1 (z.1.c z.2)) (appV H' x 5 1) (ws ++ [z]) := by
  have own := c.own.mod m fun _ _ h => h
  have hlt := c.own.lt
  have am := app_mod (h := H') (x := x) (sz := 5) (e := 57) (m := 1) (ys := z.1.c z.2)
  refine ⟨appA_own own rfl (by simp [lim]; omega), ?_, ?_, ?_, ?_, ?_⟩
  · have := app_own (e := 57) own (m := 1) (ys := z.1.c z.2) rfl
    rw [entC_snoc, List.length_append]
    exact this
  · exact (c.mod.trans m fun _ _ h => h).trans am fun j hj hb => by have := c.new j hb; omega
  · intro j hj
    rcases blk_app j hj with h1 | h1
    · exact c.new j h1
    · have := Nat.le_trans c.mod.1 m.1; omega
  · intro w hw
    rcases List.mem_append.1 hw with h1 | h1
    · exact ((c.dat w h1).mod m fun _ _ h => h).mod am fun j hj hb => (c.sep w h1 j hj).2 hb
    · simp at h1
      subst h1
      exact hz.mod am fun j hj hb => by have := hn j hj; have := hlt j hb; omega
  · intro w hw j hj
    rcases List.mem_append.1 hw with h1 | h1
    · refine ⟨(c.sep w h1 j hj).1, fun hb => ?_⟩
      rcases blk_app j hb with h2 | h2
      · exact (c.sep w h1 j hj).2 h2
      · have := (c.dat w h1).lt j hj; have := m.1; omega
    · simp at h1
      subst h1
      have h3 := hn j hj
      have h4 := hz.lt j hj
      refine ⟨by have := c.mod.1; omega, fun hb => ?_⟩
      rcases blk_app j hb with h2 | h2
      · have := hlt j h2; omega
      · omega

section
variable {h : Heap} {y : SV} {es : List (En × SV)}
set_option maxHeartbeats 1000000 in
theorem cp_loop (hE : EsAt h y es) (hn : es.length ≤ 2513169434844) (hT : ∀ z ∈ es, z.1.T.length ≤ 140737488353280) : ∀ (m i : Nat) (H : Heap) (x : SV) (ws : List (En × SV)) (e : Env), i + m = es.length → CpAt h H x ws → ws.map (·.1) = (es.take i).map (·.1) →
    e.get 0 = [.sc y] → e.get 3 = [.sc x] → e.get 4 = [.sc (.int .i64 i)] →
    ∃ (H' : Heap) (x' : SV) (ws' : List (En × SV)) (e' : Env), loopE F O (.loop [0, 3, 4] M.b39_0) e H = some (.exit 0, e', H') ∧ e'.get 3 = [.sc x'] ∧ CpAt h H' x' ws' ∧ ws'.map (·.1) = es.map (·.1)
  | 0, i, H, x, ws, e, hi, c, hw, e0, e3, e4 => by
    have ln := lenA_row (hE.mod c.mod).row
    have c2 : ¬ i < es.length := by omega
    refine ⟨H, x, ws, [(0, [.sc y]), (3, [.sc x]), (4, [.sc (.int .i64 i)]), (9, [.sc (.bool false)])], exitM fun R RO RD RT E => ?_, rfl, c, by rw [hw, List.take_of_length_le (by omega)]⟩
    simp [M.b39_0, E.eqs, e0, e3, e4, ln, c2]
  | m + 1, i, H, x, ws, e, hi, c, hw, e0, e3, e4 => by
    have hlt : i < es.length := by omega
    obtain ⟨z, hz⟩ : ∃ z, es[i]? = some z := ⟨_, List.getElem?_eq_getElem hlt⟩
    have hzm := List.mem_of_getElem? hz
    have hEH := hE.mod c.mod
    have hEt : ∀ t : Heap, EsAt (H ++ t) y es := fun t => hEH.mod (Mod.app (fun _ => False) H t)
    have ln := lenA_row hEH.row
    have ld := loadA_ent hEH.row hz
    have ix := ixsA_row hEH.row hlt
    have ixt : ∀ t : Heap, ixsA (H ++ t) 5 [.sc y] (some i) = some ([.sc (elemP y 5 i)], H ++ t) := fun t => ixsA_row (hEt t).row hlt
    have flt : ∀ t : Heap, fldA (H ++ t) 3 [.sc (elemP y 5 i)] = some ([.sc (fldP (elemP y 5 i) 3)], H ++ t) := fun t => fldA_row (hEt t).row hlt 3
    have lft : ∀ t : Heap, loadA (H ++ t) false 1 [.sc (fldP (elemP y 5 i) 3)] = some ([.sc z.2], H ++ t) := fun t => by
      have hg := entC_get hz
      have : (entC es)[i * 5 + 3]? = some z.2 := by
        have := congrArg (fun l => l[3]?) hg
        simpa [En.c, eC, List.getElem?_take, List.getElem?_drop] using this
      exact loadA_fld (hEt t).row hlt (by omega) this
    obtain ⟨ha, hha⟩ : ∃ ha : Heap, ha = H ++ [⟨.var, z.1.c z.2⟩] := ⟨_, rfl⟩
    have ma : Mod (fun _ => False) H ha := by rw [hha]; exact Mod.app _ _ _
    have la : ha.length = H.length + 1 := by rw [hha]; simp
    have a1 := copy_app ((hEH.dat z hzm).mod ma fun _ _ h => h) (by have := hT z hzm; omega)
    obtain ⟨x', hx'⟩ : ∃ x' : SV, x' = .sl (H.length + 1) 0 z.1.T.length z.1.T.length := ⟨_, rfl⟩
    rw [la, ← hx'] at a1
    have m2 : Mod (fun _ => False) H (H ++ [⟨.var, z.1.c x'⟩, ⟨.row 5 1, Go.Abs.bytes z.1.T⟩]) := Mod.app _ _ _
    have hz2 : Row (H ++ [⟨.var, z.1.c x'⟩, ⟨.row 5 1, Go.Abs.bytes z.1.T⟩]) x' 1 z.1.T.length (Go.Abs.bytes z.1.T) := Own.row (e := 5) (.inr ⟨H.length + 1, by rw [hx']; simp, by simp, by simp [bytes_length]⟩)
    have hn2 : ∀ j, blk x' j → H.length ≤ j := fun j hj => by
      rw [hx'] at hj
      have : j = H.length + 1 := by simpa [blk, eq_comm] using hj
      omega
    have hwl : ws.length = i := by
      have := congrArg List.length hw
      simp at this
      omega
    obtain ⟨p1, c'⟩ := c.push (z := (z.1, x')) m2 hz2 hn2 (by omega)
    have hw' : (ws ++ [(z.1, x')]).map (·.1) = (es.take (i + 1)).map (·.1) := by
      rw [List.take_add_one, hz, List.map_append, hw, List.map_append]
      rfl
    simp only at p1 c'
    obtain ⟨H2, hH2⟩ : ∃ H2 : Heap, H2 = H ++ [⟨.var, z.1.c x'⟩, ⟨.row 5 1, Go.Abs.bytes z.1.T⟩] := ⟨_, rfl⟩
    rw [← hH2] at p1 c' m2
    generalize appV H2 x 5 1 = x3 at *
    generalize appH H2 x 57 5 1 (z.1.c x') = H3 at *
    obtain ⟨H', xf, ws', e', lo, g3, cf, wf⟩ := cp_loop hE hn hT m (i + 1) H3 x3 (ws ++ [(z.1, x')]) [(0, [.sc y]), (3, [.sc x3]), (4, [.sc (.int .i64 ((i + 1 : Nat) : Int))])] (by omega) c' hw' rfl rfl rfl
    refine ⟨H', xf, ws', e', stepM (fun R RO RD RT E => ?_) lo, g3, cf, wf⟩
    clear lo cf wf c c' hz2
    have w1 : IntKind.i64.wrap ((i : Int) + 1) = (i : Int) + 1 := wi64 (by omega) (by omega)
    have ixa : ∀ t : Heap, ixsA (ha ++ t) 5 [.sc y] (some i) = some ([.sc (elemP y 5 i)], ha ++ t) := fun t => by rw [hha, List.append_assoc]; exact ixt _
    have fla : ∀ t : Heap, fldA (ha ++ t) 3 [.sc (elemP y 5 i)] = some ([.sc (fldP (elemP y 5 i) 3)], ha ++ t) := fun t => by rw [hha, List.append_assoc]; exact flt _
    have lfa : ∀ t : Heap, loadA (ha ++ t) false 1 [.sc (fldP (elemP y 5 i) 3)] = some ([.sc z.2], ha ++ t) := fun t => by rw [hha, List.append_assoc]; exact lft _
    have bC : ∀ t : Heap, (ha ++ t)[H.length]? = some ⟨.var, z.1.c z.2⟩ := fun t => by rw [hha, List.append_assoc]; simp
    have d0 : setCells [.int .i64 0, .int .u64 0, .int .u64 0, .nils, .int .i64 0] 0 (z.1.c z.2) = z.1.c z.2 := rfl
    have d1 : (z.1.c z.2).length = 5 := rfl
    have d2 : (z.1.c z.2).set 3 x' = z.1.c x' := rfl
    have st : ∀ t : Heap, (ha ++ t).set H.length ⟨.var, z.1.c x'⟩ = H ++ (⟨.var, z.1.c x'⟩ :: t) := fun t => by rw [hha, List.append_assoc]; simp
    have frC : ∀ t : Heap, freshB (ha ++ t) H.length 5 = true := fun t => freshB_of (bC t) rfl
    have f3 : ∀ t : Heap, fldA (ha ++ t) 3 [.sc (.ptr H.length 0 5)] = some ([.sc (.ptr H.length 3 5)], ha ++ t) := fun t => by simp [fldA, frC]
    have b2 : H2[H.length]? = some ⟨.var, z.1.c x'⟩ := by rw [hH2]; simp
    have l2 : loadA H2 true 5 [.sc (.ptr H.length 0 5)] = some ([.agg (z.1.c x')], H2) := by simp [loadA, b2, show (z.1.c x').length = 5 from rfl, show (z.1.c x').take 5 = z.1.c x' from rfl]
    have d3 : (z.1.c x').length = 5 := rfl
    have d5 : setCells [.int .i64 0, .int .u64 0, .int .u64 0, .nils, .int .i64 0] 0 (z.1.c x') = z.1.c x' := rfl
    generalize z.1.c z.2 = zc at *
    generalize z.1.c x' = zx at *
    simp [M.b39_0, E.eqs, e0, e3, e4, ln, hlt, ix, ld, d0, d1, d2, ← hha, la, ixa, fla, lfa, a1, f3, storeA, bC, st, ← hH2, l2, d3, d5, p1, w1]

theorem CpAt.trim {H : Heap} {x : SV} {ws : List (En × SV)} (c : CpAt h H x ws) : CpAt h (Go.Abs.trim h H [.sc x]) x ws := by
  unfold Go.Abs.trim
  split
  · rename_i hc
    simp only [Bool.and_eq_true] at hc
    rcases c.own with ⟨rfl, h1, h2⟩ | ⟨b, rfl, _⟩
    · have : ws = [] := List.eq_nil_of_length_eq_zero h1
      subst this
      have hle := c.mod.1
      exact ⟨.inl ⟨rfl, rfl, rfl⟩, ⟨by simp; omega, fun j hj _ => by rw [List.getElem?_take, if_pos hj]; exact c.mod.2 j hj fun h => h⟩, fun j hj => hj.elim, fun w hw => by simp at hw, fun w hw => by simp at hw⟩
    · simp [pureT, pureV, pureS] at hc
  · exact c

theorem spec39 (hE : EsAt h y es) (hn : es.length ≤ 2513169434844) (hT : ∀ z ∈ es, z.1.T.length ≤ 140737488353280) : ∃ h' x ws, call 39 [[.sc y]] h = some ([.sc x], h') ∧ CpAt h h' x ws ∧ ws.map (·.1) = es.map (·.1) := by
  obtain ⟨H', x', ws', e', lo, g3, c, hw⟩ := cp_loop hE hn hT es.length 0 h .nils [] [(0, [.sc y]), (3, [.sc .nils]), (4, [.sc (.int .i64 0)])] (by omega) ⟨.inl ⟨rfl, rfl, rfl⟩, Mod.refl _ _, fun j hj => hj.elim, fun w hw => by simp at hw, fun w hw => by simp at hw⟩ (by simp) rfl rfl rfl
  have lo := loop_run lo
  refine ⟨_, x', ws', callX (hh := Go.Abs.trim h H' [.sc x']) rfl (by rfl : F 39 = some M.a39) (fun R RO RD RT E => ?_), c.trim, hw⟩
  have lo := E.run lo
  simp [M.a39, E.eqs, lo, g3]
end
end Go.Proofs.Ytoghoddofokekaa
end

section
set_option linter.unusedVariables false
set_option linter.unusedSimpArgs false
set_option maxRecDepth 100000
namespace Go.Proofs.Ytoghoddofokekaa
open Go.Abs

theorem view_ent {H : Type} {k : Nat} {xs : List SV} {d : DataW H} {h : Heap} (hv : View Try.prog h (k + 4) 57 xs d) : ∃ z : En × SV, xs = z.1.c z.2 ∧ Row h z.2 1 z.1.T.length (Go.Abs.bytes z.1.T) ∧ z.1.T.length ≤ Rows.uptoBulk d ∧ z.1.term < 18446744073709551616 ∧ z.1.index < 18446744073709551616 := by
  have ha : Go.Abs.isAgg Try.prog 57 = true := by kernel_rfl
  obtain ⟨kind, conf, term, index, x, T, e, hx, hb, ht, hi, _⟩ := in_entry (tv := tvOf (Go.Abs.isAgg Try.prog 57) xs) ⟨xs, hv, rfl⟩
  rw [ha] at e
  have e : xs = eC kind term index x conf := by simpa [tvOf] using e
  exact ⟨(⟨kind, term, index, T, conf⟩, x), e, hx, hb, ht, hi⟩

theorem ents_of {P : En × SV → Prop} : ∀ (n : Nat) (cs : List SV), cs.length = n * 5 → (∀ i, i < n → ∃ z : En × SV, (cs.drop (i * 5)).take 5 = z.1.c z.2 ∧ P z) → ∃ es : List (En × SV), es.length = n ∧ entC es = cs ∧ ∀ z ∈ es, P z
  | 0, cs, hl, _ => ⟨[], rfl, by have : cs = [] := List.eq_nil_of_length_eq_zero (by omega); rw [this]; rfl, fun z hz => by simp at hz⟩
  | n + 1, cs, hl, hz => by
    obtain ⟨z, hz0, hp⟩ := hz 0 (by omega)
    obtain ⟨es, h1, h2, h3⟩ := ents_of n (cs.drop 5) (by simp; omega) fun i hi => by
      obtain ⟨y, hy, hq⟩ := hz (i + 1) (by omega)
      refine ⟨y, ?_, hq⟩
      rw [List.drop_drop, ← hy, Nat.succ_mul, Nat.add_comm]
    refine ⟨z :: es, by simp [h1], ?_, fun y hy => ?_⟩
    · have : entC (z :: es) = z.1.c z.2 ++ entC es := rfl
      rw [this, h2, ← hz0]
      simp
    · rcases List.mem_cons.1 hy with rfl | hy
      · exact hp
      · exact h3 y hy

theorem view_ents {H : Type} {k : Nat} {x : SV} {d : DataW H} {h : Heap} (hv : View Try.prog h (k + 5) 25 [x] d) : ∃ es : List (En × SV), EsAt h x es ∧ es.length ≤ Rows.uptoBulk d ∧ ∀ z ∈ es, z.1.T.length ≤ Rows.uptoBulk d := by
  rcases View.slice (by kernel_rfl : Try.prog.underlying 25 = some (.slice 57)) (by kernel_rfl : Try.prog.cellsOf 57 = 5) hv with ⟨h1, rfl⟩ | ⟨b, n, cs, els, rest, h1, h2, h3, h4, h5, rfl, h7⟩
  · simp only [List.cons.injEq, and_true] at h1
    subst h1
    exact ⟨[], ⟨.inl ⟨rfl, rfl, rfl⟩, fun z hz => by simp at hz, fun z hz => by simp at hz⟩, by simp, fun z hz => by simp at hz⟩
  · simp only [List.cons.injEq, and_true] at h1
    subst h1
    have hn := bulk_len els
    obtain ⟨es, e1, e2, e3⟩ := ents_of (P := fun z => Row h z.2 1 z.1.T.length (Go.Abs.bytes z.1.T) ∧ z.1.T.length ≤ Rows.uptoBulkAll els ∧ z.1.term < 18446744073709551616 ∧ z.1.index < 18446744073709551616) n cs h3 fun i hi => by
      have hlt : i < els.length := by omega
      obtain ⟨z, z1, z2, z3, z4⟩ := view_ent (h7 i _ (List.getElem?_eq_getElem hlt))
      have := bulk_mem (List.getElem_mem hlt)
      exact ⟨z, z1, z2, by omega, z4⟩
    refine ⟨es, ⟨.inr ⟨b, 0, n * 5, _, by rw [e1], h2, by simp [h3], by rw [e1]; omega, rfl, by rw [e2]; simp [e1, ← h3]⟩, fun z hz => (e3 z hz).1, fun z hz => (e3 z hz).2.2⟩, by rw [bulk_slice]; omega, fun z hz => by rw [bulk_slice]; have := (e3 z hz).2.1; omega⟩

/-- the bounds of a message's numbers -/
structure MsN (m : Ms) : Prop where
  term : m.term < 18446744073709551616
  index : m.index < 18446744073709551616
  lt : m.lt < 18446744073709551616
  cm : m.cm < 18446744073709551616
  bi : m.bi < 18446744073709551616
  bt : m.bt < 18446744073709551616
  off : -9223372036854775808 ≤ m.off ∧ m.off < 9223372036854775808

theorem one_len {α : Type} {l : List α} (h : l.length = 1) : ∃ x, l = [x] := by
  match l, h with
  | [x], _ => exact ⟨x, rfl⟩

theorem in_msg {H : Type} {k : Nat} {tv : TV} {d : DataW H} {h : Heap} (hi : In1 Try.prog h (k + 6) 30 tv d) : ∃ (m : Ms) (xe xd : SV), tv = [.agg (m.cells xe xd)] ∧ EsAt h xe m.es ∧ Row h xd 1 m.D.length (Go.Abs.bytes m.D) ∧ m.D.length ≤ Rows.uptoBulk d ∧ m.es.length ≤ Rows.uptoBulk d ∧ (∀ z ∈ m.es, z.1.T.length ≤ Rows.uptoBulk d) ∧ MsN m := by
  obtain ⟨xs, hv, rfl⟩ := hi
  obtain ⟨parts, rfl, hl, hp, hf⟩ := View.fields (L := [(3, 0, 1), (3, 1, 1), (3, 2, 1), (24, 3, 1), (24, 4, 1), (24, 5, 1), (25, 6, 1), (24, 7, 1), (4, 8, 1), (27, 9, 3), (3, 12, 1), (28, 13, 1), (4, 14, 1)]) (n := 15) (by kernel_rfl) (by kernel_rfl) hv
  have ha : Go.Abs.isAgg Try.prog 30 = true := by kernel_rfl
  have ti : Try.prog.underlying 3 = some (.int .i64) := by kernel_rfl
  have tu : Try.prog.underlying 24 = some (.int .u64) := by kernel_rfl
  have tb : Try.prog.underlying 4 = some .bool := by kernel_rfl
  match xs, hl, parts, hp with
  | [x0, x1, x2, x3, x4, x5, x6, x7, x8, x9, x10, x11, x12, x13, x14], _, [p0, p1, p2, p3, p4, p5, p6, p7, p8, p9, p10, p11, p12], _ =>
    obtain ⟨a0, e0, b0, _⟩ := View.int ti (hf 0 _ _ rfl rfl)
    obtain ⟨a1, e1, b1, _⟩ := View.int ti (hf 1 _ _ rfl rfl)
    obtain ⟨a2, e2, b2, _⟩ := View.int ti (hf 2 _ _ rfl rfl)
    obtain ⟨a3, e3, b3, _⟩ := View.int tu (hf 3 _ _ rfl rfl)
    obtain ⟨a4, e4, b4, _⟩ := View.int tu (hf 4 _ _ rfl rfl)
    obtain ⟨a5, e5, b5, _⟩ := View.int tu (hf 5 _ _ rfl rfl)
    have f6 : View Try.prog h (k + 5) 25 [x6] p6 := hf 6 _ _ rfl rfl
    obtain ⟨a7, e7, b7, _⟩ := View.int tu (hf 7 _ _ rfl rfl)
    obtain ⟨a8, e8, _⟩ := View.bool tb (hf 8 _ _ rfl rfl)
    have f9 : View Try.prog h (k + 4 + 1) 27 [x9, x10, x11] p9 := hf 9 _ _ rfl rfl
    obtain ⟨q, rfl, _, hq, hg⟩ := View.fields (L := [(24, 0, 1), (24, 1, 1), (3, 2, 1)]) (n := 3) (by kernel_rfl) (by kernel_rfl) f9
    obtain ⟨a12, e12, b12, _⟩ := View.int ti (hf 10 _ _ rfl rfl)
    have f13 : View Try.prog h (k + 3 + 2) 28 [x13] p11 := hf 11 _ _ rfl rfl
    obtain ⟨a14, e14, _⟩ := View.bool tb (hf 12 _ _ rfl rfl)
    match q, hq with
    | [q0, q1, q2], _ =>
      obtain ⟨a9, e9, b9, _⟩ := View.int tu (hg 0 _ _ rfl rfl)
      obtain ⟨a10, e10, b10, _⟩ := View.int tu (hg 1 _ _ rfl rfl)
      obtain ⟨a11, e11, b11, _⟩ := View.int ti (hg 2 _ _ rfl rfl)
      obtain ⟨es, E1, E2, E3⟩ := view_ents f6
      obtain ⟨D, D1, D2⟩ := view_bytes f13
      simp at e0 e1 e2 e3 e4 e5 e7 e8 e9 e10 e11 e12 e14
      subst e0 e1 e2 e3 e4 e5 e7 e8 e9 e10 e11 e12 e14
      have b3 := wf_u64 b3
      have b4 := wf_u64 b4
      have b5 := wf_u64 b5
      have b7 := wf_u64 b7
      have b9 := wf_u64 b9
      have b10 := wf_u64 b10
      have b12 := wf_i64 b12
      have m6 := bulk_mem (d := p6) (ds := [p0, p1, p2, p3, p4, p5, p6, p7, p8, .agg [q0, q1, q2], p10, p11, p12]) (by simp)
      have m11 := bulk_mem (d := p11) (ds := [p0, p1, p2, p3, p4, p5, p6, p7, p8, .agg [q0, q1, q2], p10, p11, p12]) (by simp)
      refine ⟨⟨a0, a1, a2, a3.toNat, a4.toNat, a5.toNat, es, a7.toNat, a8, a9.toNat, a10.toNat, a11, a12, D, a14⟩, x6, x13, ?_, E1, D1, by rw [bulk_agg]; simp only; omega, by rw [bulk_agg]; simp only; omega, fun z hz => by rw [bulk_agg]; have := E3 z hz; omega, ⟨by simp only; omega, by simp only; omega, by simp only; omega, by simp only; omega, by simp only; omega, by simp only; omega, b12⟩⟩
      rw [ha]
      unfold Ms.cells
      rw [Int.toNat_of_nonneg b3.1, Int.toNat_of_nonneg b4.1, Int.toNat_of_nonneg b5.1, Int.toNat_of_nonneg b7.1, Int.toNat_of_nonneg b9.1, Int.toNat_of_nonneg b10.1]
      rfl

/-- a message without the places of its rows -/
def Ms.plain (m : Ms) : Ms := { m with es := m.ents.map fun e => (e, .nils) }
def Ms.wes (m : Ms) (es : List (En × SV)) : Ms := { m with es := es }
theorem Ms.plain_wes {m : Ms} {es : List (En × SV)} (h : es.map (·.1) = m.ents) : (m.wes es).plain = m.plain := by
  unfold Ms.plain Ms.wes Ms.ents at *
  simp only [h]
theorem Ms.ents_plain (m : Ms) : m.plain.ents = m.ents := by
  unfold Ms.plain Ms.ents
  simp [Function.comp_def]
theorem Ms.of_plain {m m' : Ms} (h : m'.plain = m.plain) : m' = m.wes m'.es ∧ m'.ents = m.ents := by
  have he : m'.ents = m.ents := by rw [← Ms.ents_plain m', h, Ms.ents_plain]
  refine ⟨?_, he⟩
  cases m
  cases m'
  simp only [Ms.plain, Ms.mk.injEq] at h
  simp only [Ms.wes, Ms.mk.injEq]
  simp [h]
theorem Ms.len_ents (m : Ms) : m.es.length = m.ents.length := by simp [Ms.ents]
theorem rightM_wes {m : Ms} {es : List (En × SV)} (h : es.map (·.1) = m.ents) : rightM (m.wes es) = rightM m := by
  have hl : es.length = m.es.length := by rw [Ms.len_ents, ← h]; simp
  rw [rightM_same, rightM_same]
  unfold ask1 ask2 ask3 ask4
  rw [show (m.wes es).ents = m.ents from h]
  simp only [Ms.wes, hl]
  rfl
theorem rightM_plain {m m' : Ms} (h : m'.plain = m.plain) : rightM m' = rightM m := by
  obtain ⟨h1, h2⟩ := Ms.of_plain h
  rw [h1]
  exact rightM_wes h2

section
variable {h : Heap} {m : Ms} {xe xd : SV}

set_option maxHeartbeats 1000000 in
theorem spec22 (a : MsAt h m xe xd) (hT : ∀ z ∈ m.es, z.1.T.length ≤ 140737488353280) : ∃ h' es xe' xd', call 22 [[.agg (m.cells xe xd)]] h = some ([.agg ((m.wes es).cells xe' xd')], h') ∧ Mod (fun _ => False) h h' ∧ MsAt h' (m.wes es) xe' xd' ∧ es.map (·.1) = m.ents := by
  obtain ⟨Z, hZ⟩ : ∃ Z : List SV, Z = [.int .i64 0, .int .i64 0, .int .i64 0, .int .u64 0, .int .u64 0, .int .u64 0, .nils, .int .u64 0, .bool false, .int .u64 0, .int .u64 0, .int .i64 0, .int .i64 0, .nils, .bool false] := ⟨_, rfl⟩
  obtain ⟨h0, hh0⟩ : ∃ h0 : Heap, h0 = h ++ [⟨.var, m.cells xe xd⟩, ⟨.var, Z⟩] := ⟨_, rfl⟩
  have m0 : Mod (fun _ => False) h h0 := by rw [hh0]; exact Mod.app _ _ _
  have bA0 : h0[h.length]? = some ⟨.var, m.cells xe xd⟩ := by rw [hh0]; simp
  have bB0 : h0[h.length + 1]? = some ⟨.var, Z⟩ := by rw [hh0]; simp
  have a0 := a.mod m0
  obtain ⟨h1, x', ws, q1, c, hw⟩ := spec39 a0.es a.nes hT
  have bA1 := c.mod.get bA0 fun h => h
  have bB1 := c.mod.get bB0 fun h => h
  have lA := lt_of_get bA0
  have lB := lt_of_get bB0
  have hd := a.dat.lt
  obtain ⟨h2, hh2⟩ : ∃ h2 : Heap, h2 = h1.set h.length ⟨.var, (m.wes ws).cells x' xd⟩ := ⟨_, rfl⟩
  have m2 : Mod (fun j => j = h.length) h1 h2 := by rw [hh2]; exact Mod.set _ _ rfl
  have bA2 : h2[h.length]? = some ⟨.var, (m.wes ws).cells x' xd⟩ := by rw [hh2]; exact get_set_same bA1
  have bB2 : h2[h.length + 1]? = some ⟨.var, Z⟩ := m2.get bB1 (by omega)
  have d2 : Row h2 xd 1 m.D.length (Go.Abs.bytes m.D) := (a0.dat.mod c.mod fun _ _ h => h).mod m2 fun j hj e => by have := hd j hj; omega
  have q2 := copy_app d2 (by have := a.nd; omega)
  have f2 := copy_fresh h2 m.D
  have lI : h2.length = h1.length := by rw [hh2]; simp
  have l10 : h0.length ≤ h1.length := c.mod.1
  obtain ⟨d', hd'⟩ : ∃ d' : SV, d' = .sl h2.length 0 m.D.length m.D.length := ⟨_, rfl⟩
  rw [← hd'] at q2 f2
  obtain ⟨h3, hh3⟩ : ∃ h3 : Heap, h3 = h2 ++ [⟨.row 5 1, Go.Abs.bytes m.D⟩] := ⟨_, rfl⟩
  rw [← hh3] at q2 f2
  have bA3 := f2.mod.get bA2 fun h => h
  have bB3 := f2.mod.get bB2 fun h => h
  obtain ⟨h4, hh4⟩ : ∃ h4 : Heap, h4 = h3.set h.length ⟨.var, (m.wes ws).cells x' d'⟩ := ⟨_, rfl⟩
  have m4 : Mod (fun j => j = h.length) h3 h4 := by rw [hh4]; exact Mod.set _ _ rfl
  have bA4 : h4[h.length]? = some ⟨.var, (m.wes ws).cells x' d'⟩ := by rw [hh4]; exact get_set_same bA3
  have bB4 : h4[h.length + 1]? = some ⟨.var, Z⟩ := m4.get bB3 (by omega)
  obtain ⟨h5, hh5⟩ : ∃ h5 : Heap, h5 = h4.set (h.length + 1) ⟨.var, (m.wes ws).cells x' d'⟩ := ⟨_, rfl⟩
  have m5 : Mod (fun j => j = h.length + 1) h4 h5 := by rw [hh5]; exact Mod.set _ _ rfl
  have bB5 : h5[h.length + 1]? = some ⟨.var, (m.wes ws).cells x' d'⟩ := by rw [hh5]; exact get_set_same bB4
  have m15 : Mod (fun j => j = h.length ∨ j = h.length + 1) h1 h5 := (((m2.mono fun j _ e => .inl e).trans f2.mod fun _ _ h => h.elim).trans m4 fun j _ e => .inl e).trans m5 fun j _ e => .inr e
  have mf : Mod (fun _ => False) h h5 := (m0.trans c.mod fun _ _ h => h).trans m15 fun j hj e => by omega
  have tr : Go.Abs.trim h h5 [.agg ((m.wes ws).cells x' d')] = h5 := by simp [Go.Abs.trim, pureT, pureV, pureS, Ms.cells, hd']
  refine ⟨h5, ws, x', d', callX (hh := h5) rfl (by rfl : F 22 = some M.a22) (fun R RO RD RT E => ?_), mf, ?_, hw⟩
  · have s1 : storeA h1 1 [.sc (.ptr h.length 6 15)] [.sc x'] = some ([], h2) := by
      rw [hh2]
      simp [storeA, bA1, Ms.cells, Ms.wes]
    have s2 : storeA h3 1 [.sc (.ptr h.length 13 15)] [.sc d'] = some ([], h4) := by
      rw [hh4]
      simp [storeA, bA3, Ms.cells, Ms.wes]
    have s3 : storeA h4 15 [.sc (.ptr (h.length + 1) 0 15)] [.agg ((m.wes ws).cells x' d')] = some ([], h5) := by
      rw [hh5]
      simp [storeA, bB4, hZ, Ms.cells, Ms.wes]
    have l1 : loadA h0 false 1 [.sc (.ptr h.length 6 15)] = some ([.sc xe], h0) := by simp [loadA, bA0, Ms.cells]
    have l2 : ∀ t : Heap, loadA (h2 ++ t) false 1 [.sc (.ptr h.length 13 15)] = some ([.sc xd], h2 ++ t) := fun t => by
      have : (h2 ++ t)[h.length]? = some ⟨.var, (m.wes ws).cells x' xd⟩ := by rw [List.getElem?_append_left (lt_of_get bA2)]; exact bA2
      simp [loadA, this, Ms.cells, Ms.wes]
    have l3 : loadA h4 true 15 [.sc (.ptr h.length 0 15)] = some ([.agg ((m.wes ws).cells x' d')], h4) := by simp [loadA, bA4, Ms.cells, Ms.wes]
    have l4 : loadA h5 true 15 [.sc (.ptr (h.length + 1) 0 15)] = some ([.agg ((m.wes ws).cells x' d')], h5) := by simp [loadA, bB5, Ms.cells, Ms.wes]
    have fr : ∀ {g : Heap} {B : Blk} (k : Nat), g[h.length]? = some B → B.c.length = 15 → fldA g k [.sc (.ptr h.length 0 15)] = some ([.sc (.ptr h.length k 15)], g) := fun k hB hl => by simp [fldA, freshB_of hB hl.symm]
    have fA0 := fr 6 bA0 rfl
    have fA1 := fr 6 bA1 rfl
    have fA2 : ∀ t : Heap, fldA (h2 ++ t) 13 [.sc (.ptr h.length 0 15)] = some ([.sc (.ptr h.length 13 15)], h2 ++ t) := fun t => fr 13 (by rw [List.getElem?_append_left (lt_of_get bA2)]; exact bA2) rfl
    have fA3 := fr 13 bA3 rfl
    have zl : Z.length = 15 := by rw [hZ]; rfl
    have e15 : ∀ m' : Ms, ∀ a b, (m'.cells a b).length = 15 := fun _ _ _ => rfl
    have d9 : ∀ b : Blk, (h ++ [b]).length = h.length + 1 := fun b => by simp
    have d8 : (h ++ [(⟨.var, m.cells xe xd⟩ : Blk)]) ++ [⟨.var, Z⟩] = h0 := by rw [hh0]; simp
    have d8' : h ++ [(⟨.var, m.cells xe xd⟩ : Blk), ⟨.var, Z⟩] = h0 := by rw [hh0]
    have fB5 : resA [(2, [.sc (.ptr (h.length + 1) 0 15)])] h5 M.a22.res = some [.agg ((m.wes ws).cells x' d')] := by
      simp [M.a22, bB5, Ms.cells, Ms.wes, freshB]
    clear hh0 hh2 hh3 hh4 hh5 c a a0 d2 f2 bA0 bA1 bA2 bA3 bA4 bB0 bB1 bB2 bB3 bB4 bB5 hw m2 m4 m5 m15 mf
    refine (congrArg (finA h M.a22.res) (?_ : R M.a22.body (envFrom 0 [[.agg (m.cells xe xd)]]) h = some (.ret, [(2, [.sc (.ptr (h.length + 1) 0 15)])], h5))).trans (by simp only [Go.Abs.finA_ret, fB5, tr])
    generalize (m.wes ws).cells x' d' = C5 at *
    have ec := e15 m xe xd
    generalize m.cells xe xd = C0 at *
    simp [M.a22, E.eqs, ec, zl, d9, d8, d8', ← hZ, fA0, fA1, fA2, fA3, l1, l2, l3, q1, q2, s1, s2, s3, ← hd']
  · refine ⟨⟨?_, fun z hz => ?_, fun z hz => ?_⟩, ?_, a.ix, ?_, a.nd⟩
    · exact c.own.row.mod m15 fun j hj e => by have := c.new j hj; omega
    · exact (c.dat z hz).mod m15 fun j hj e => by have := (c.sep z hz j hj).1; omega
    · have : z.1 ∈ ws.map (·.1) := List.mem_map_of_mem hz
      rw [hw] at this
      obtain ⟨y, hy, e⟩ := List.mem_map.1 this
      rw [← e]
      exact a.es.trm y hy
    · exact (f2.row.mod m4 fun j hj e => by have := f2.new j hj; omega).mod m5 fun j hj e => by have := f2.new j hj; omega
    · have : ws.length = m.es.length := by have := congrArg List.length hw; simpa using this
      show ws.length ≤ 2513169434844
      rw [this]; exact a.nes

theorem sameEn_loop {es1 es2 : List (En × SV)} {x1 x2 : SV} (E1 : EsAt h x1 es1) (E2 : EsAt h x2 es2) (hs : es1.map (·.1) = es2.map (·.1)) (hn : es1.length ≤ 2513169434844) : ∀ (n i : Nat) (e : Env), i + n = es1.length → e.get 0 = [.sc x1] → e.get 1 = [.sc x2] → e.get 5 = [.sc (.int .i64 i)] →
    ∃ e' : Env, loopE F O (.loop [0, 1, 5] M.b59_0) e h = some (.exit 0, e', h)
  | 0, i, e, hi, e0, e1, e5 => by
    have ln := lenA_row E1.row
    have c2 : ¬ i < es1.length := by omega
    refine ⟨_, exitM (e1 := [(0, [.sc x1]), (1, [.sc x2]), (5, [.sc (.int .i64 i)]), (14, [.sc (.bool false)])]) fun R RO RD RT E => ?_⟩
    simp [M.b59_0, E.eqs, e0, e1, e5, ln, c2]
  | n + 1, i, e, hi, e0, e1, e5 => by
    have ln := lenA_row E1.row
    have hl : es1.length = es2.length := by have := congrArg List.length hs; simpa using this
    have hlt : i < es1.length := by omega
    have hlt2 : i < es2.length := by omega
    obtain ⟨z1, hz1⟩ : ∃ z, es1[i]? = some z := ⟨_, List.getElem?_eq_getElem hlt⟩
    obtain ⟨z2, hz2⟩ : ∃ z, es2[i]? = some z := ⟨_, List.getElem?_eq_getElem hlt2⟩
    have hz : z1.1 = z2.1 := by
      have := congrArg (fun l => l[i]?) hs
      simpa [hz1, hz2] using this
    obtain ⟨y1, w1⟩ := z1
    obtain ⟨y2, w2⟩ := z2
    simp only at hz
    subst hz
    have ix1 := ixsA_row E1.row hlt
    have ix2 := ixsA_row E2.row hlt2
    have ld1 : loadA h true 5 [.sc (elemP x1 5 i)] = some ([.agg (y1.c w1)], h) := loadA_ent E1.row hz1
    have ld2 : loadA h true 5 [.sc (elemP x2 5 i)] = some ([.agg (y1.c w2)], h) := loadA_ent E2.row hz2
    have sm : call 44 [[.agg (y1.c w1)], [.agg (y1.c w2)]] h = some ([.sc (.bool true)], h) := spec44 (E1.dat _ (List.mem_of_getElem? hz1)) (E2.dat _ (List.mem_of_getElem? hz2))
    obtain ⟨e', lo⟩ := sameEn_loop E1 E2 hs hn n (i + 1) [(0, [.sc x1]), (1, [.sc x2]), (5, [.sc (.int .i64 ((i + 1 : Nat) : Int))])] (by omega) rfl rfl rfl
    have wr : IntKind.i64.wrap ((i : Int) + 1) = (i : Int) + 1 := wi64 (by omega) (by omega)
    refine ⟨e', stepM (fun R RO RD RT E => ?_) lo⟩
    clear lo
    generalize y1.c w1 = c1 at *
    generalize y1.c w2 = c2 at *
    simp [M.b59_0, E.eqs, e0, e1, e5, ln, hlt, ix1, ix2, ld1, ld2, sm, wr]

theorem spec59 {es1 es2 : List (En × SV)} {x1 x2 : SV} (E1 : EsAt h x1 es1) (E2 : EsAt h x2 es2) (hs : es1.map (·.1) = es2.map (·.1)) (hn : es1.length ≤ 2513169434844) : call 59 [[.sc x1], [.sc x2]] h = some ([.sc (.bool true)], h) := by
  obtain ⟨e', lo⟩ := sameEn_loop E1 E2 hs hn es1.length 0 [(0, [.sc x1]), (1, [.sc x2]), (5, [.sc (.int .i64 0)])] (by omega) rfl rfl rfl
  have lo := loop_run lo
  have hl : es1.length = es2.length := by have := congrArg List.length hs; simpa using this
  have l1 := lenA_row E1.row
  have l2 := lenA_row E2.row
  rw [← hl] at l2
  refine callX rfl (by rfl : F 59 = some M.a59) (fun R RO RD RT E => ?_)
  have lo := E.run lo
  simp [M.a59, E.eqs, l1, l2, lo]

set_option maxHeartbeats 4000000 in
theorem same_wes {es1 es2 : List (En × SV)} {x1 x2 d1 d2 : SV} (E1 : EsAt h x1 es1) (E2 : EsAt h x2 es2) (hs : es1.map (·.1) = es2.map (·.1)) (hn : es1.length ≤ 2513169434844) (D1 : Row h d1 1 m.D.length (Go.Abs.bytes m.D)) (D2 : Row h d2 1 m.D.length (Go.Abs.bytes m.D)) :
    call 26 [[.agg ((m.wes es1).cells x1 d1)], [.agg ((m.wes es2).cells x2 d2)]] h = some ([.sc (.bool true)], h) := by
  obtain ⟨ha, hha⟩ : ∃ ha : Heap, ha = h ++ [⟨.var, (m.wes es1).cells x1 d1⟩] := ⟨_, rfl⟩
  obtain ⟨hb, hhb⟩ : ∃ hb : Heap, hb = ha ++ [⟨.var, (m.wes es2).cells x2 d2⟩] := ⟨_, rfl⟩
  have ma : Mod (fun _ => False) h ha := by rw [hha]; exact Mod.app _ _ _
  have mb : Mod (fun _ => False) ha hb := by rw [hhb]; exact Mod.app _ _ _
  have mab : Mod (fun _ => False) h hb := ma.trans mb fun _ _ h => h
  have ba : hb[h.length]? = some ⟨.var, (m.wes es1).cells x1 d1⟩ := mb.get (by rw [hha]; simp) fun h => h
  have bb : hb[ha.length]? = some ⟨.var, (m.wes es2).cells x2 d2⟩ := by rw [hhb]; simp
  have tr : trim h hb [.sc (.bool true)] = h := Mod.trim_pure mab true
  have s1 := b2sA_row (D1.mod mab fun _ _ h => h)
  have s2 := b2sA_row (D2.mod mab fun _ _ h => h)
  have sm := spec59 (E1.mod mab) (E2.mod mab) hs hn
  have fra : freshB hb h.length 15 = true := freshB_of ba rfl
  have frb : freshB hb ha.length 15 = true := freshB_of bb rfl
  have fa : ∀ k, fldA hb k [.sc (.ptr h.length 0 15)] = some ([.sc (.ptr h.length k 15)], hb) := fun k => by simp [fldA, fra]
  have fb : ∀ k, fldA hb k [.sc (.ptr ha.length 0 15)] = some ([.sc (.ptr ha.length k 15)], hb) := fun k => by simp [fldA, frb]
  have la : ∀ k, k < 15 → loadA hb false 1 [.sc (.ptr h.length k 15)] = (((m.wes es1).cells x1 d1)[k]?).map fun v => ([.sc v], hb) := fun k hk => by
    have : ((m.wes es1).cells x1 d1).length = 15 := rfl
    simp [loadA, ba, this, show k + 1 ≤ 15 by omega, List.getElem?_eq_getElem (show k < ((m.wes es1).cells x1 d1).length by omega)]
  have lb : ∀ k, k < 15 → loadA hb false 1 [.sc (.ptr ha.length k 15)] = (((m.wes es2).cells x2 d2)[k]?).map fun v => ([.sc v], hb) := fun k hk => by
    have : ((m.wes es2).cells x2 d2).length = 15 := rfl
    simp [loadA, bb, this, show k + 1 ≤ 15 by omega, List.getElem?_eq_getElem (show k < ((m.wes es2).cells x2 d2).length by omega)]
  have ta : loadA hb true 3 [.sc (.ptr h.length 9 15)] = some ([.agg [.int .u64 m.bi, .int .u64 m.bt, .int .i64 m.bc]], hb) := by simp [loadA, ba, Ms.cells, Ms.wes]
  have tb : loadA hb true 3 [.sc (.ptr ha.length 9 15)] = some ([.agg [.int .u64 m.bi, .int .u64 m.bt, .int .i64 m.bc]], hb) := by simp [loadA, bb, Ms.cells, Ms.wes]
  have ec1 : ((m.wes es1).cells x1 d1).length = 15 := rfl
  have ec2 : ((m.wes es2).cells x2 d2).length = 15 := rfl
  have la0 := la 0 (by omega)
  have la1 := la 1 (by omega)
  have la2 := la 2 (by omega)
  have la3 := la 3 (by omega)
  have la4 := la 4 (by omega)
  have la5 := la 5 (by omega)
  have la6 := la 6 (by omega)
  have la7 := la 7 (by omega)
  have la8 := la 8 (by omega)
  have la12 := la 12 (by omega)
  have la13 := la 13 (by omega)
  have la14 := la 14 (by omega)
  have lb0 := lb 0 (by omega)
  have lb1 := lb 1 (by omega)
  have lb2 := lb 2 (by omega)
  have lb3 := lb 3 (by omega)
  have lb4 := lb 4 (by omega)
  have lb5 := lb 5 (by omega)
  have lb6 := lb 6 (by omega)
  have lb7 := lb 7 (by omega)
  have lb8 := lb 8 (by omega)
  have lb12 := lb 12 (by omega)
  have lb13 := lb 13 (by omega)
  have lb14 := lb 14 (by omega)
  clear la lb
  simp only [Ms.cells, Ms.wes, List.getElem?_cons_zero, List.getElem?_cons_succ, Option.map_some] at la0 la1 la2 la3 la4 la5 la6 la7 la8 la12 la13 la14 lb0 lb1 lb2 lb3 lb4 lb5 lb6 lb7 lb8 lb12 lb13 lb14
  refine callX rfl (by rfl : F 26 = some M.a26) (fun R RO RD RT E => ?_)
  clear E1 E2 D1 D2 ba bb ma mb mab
  generalize (m.wes es1).cells x1 d1 = C1 at *
  generalize (m.wes es2).cells x2 d2 = C2 at *
  simp [M.a26, E.eqs, ← hha, ← hhb, ec1, ec2, fa, fb, ta, tb, la0, la1, la2, la3, la4, la5, la6, la7, la8, la12, la13, la14, lb0, lb1, lb2, lb3, lb4, lb5, lb6, lb7, lb8, lb12, lb13, lb14, sm, s1, s2, tr]

theorem spec26 {m' : Ms} {x1 x2 d1 d2 : SV} (a1 : MsAt h m x1 d1) (a2 : MsAt h m' x2 d2) (hs : m'.plain = m.plain) : call 26 [[.agg (m.cells x1 d1)], [.agg (m'.cells x2 d2)]] h = some ([.sc (.bool true)], h) := by
  obtain ⟨e1, e2⟩ := Ms.of_plain hs
  have hD : m'.D = m.D := by rw [e1]; rfl
  have a2d := a2.dat
  rw [hD] at a2d
  have := same_wes (m := m) a1.es a2.es e2.symm a1.nes a1.dat a2d
  rw [← e1] at this
  exact this
end
end Go.Proofs.Ytoghoddofokekaa
end

section
set_option linter.unusedVariables false
set_option linter.unusedSimpArgs false
set_option maxRecDepth 100000
namespace Go.Proofs.Ytoghoddofokekaa
open Go.Abs

def layE (e : En) : List UInt8 := numB (entL e.kind e.term e.index e.T e.conf).length ++ entL e.kind e.term e.index e.T e.conf
def layEs : List En → List UInt8
  | [] => []
  | e :: l => layE e ++ layEs l
def flagB (b : Bool) : UInt8 := if b then 1 else 0
/-- a field's bytes -/
def layF (m : Ms) : Nat → List UInt8
  | 0 => numB m.term
  | 1 => numB m.index
  | 2 => numB m.lt
  | 3 => numB m.cm
  | 4 => [flagB m.rf]
  | 5 => numB m.bi ++ (numB m.bt ++ [UInt8.ofNat (m.bc % 256).toNat])
  | 6 => numB m.off.toNat
  | 7 => [flagB m.la]
  | 8 => numB m.D.length ++ m.D
  | _ => numB m.es.length ++ layEs m.ents
def layFromM (m : Ms) : Nat → Nat → List UInt8
  | 0, _ => []
  | n + 1, j => (if flM m.k j then layF m j else []) ++ layFromM m n (j + 1)
def bodyM (m : Ms) : List UInt8 := UInt8.ofNat (m.k % 256).toNat :: UInt8.ofNat (m.f % 256).toNat :: UInt8.ofNat (m.t % 256).toNat :: layFromM m 10 0
def encM (m : Ms) : List UInt8 := if rightM m then sealB (bodyM m) else []
def errM (m : Ms) : Int := if rightM m then 0 else 1

theorem layF_wes {m : Ms} {es : List (En × SV)} (h : es.map (·.1) = m.ents) (j : Nat) : layF (m.wes es) j = layF m j := by
  have hl : es.length = m.es.length := by rw [Ms.len_ents, ← h]; simp
  unfold layF
  rw [show (m.wes es).ents = m.ents from h]
  simp only [Ms.wes, hl]
theorem layFromM_wes {m : Ms} {es : List (En × SV)} (h : es.map (·.1) = m.ents) : ∀ n j, layFromM (m.wes es) n j = layFromM m n j
  | 0, j => rfl
  | n + 1, j => by
    unfold layFromM
    rw [layF_wes h, layFromM_wes h n (j + 1)]
    rfl
theorem bodyM_wes {m : Ms} {es : List (En × SV)} (h : es.map (·.1) = m.ents) : bodyM (m.wes es) = bodyM m := by
  unfold bodyM
  rw [layFromM_wes h]
  rfl
theorem encM_wes {m : Ms} {es : List (En × SV)} (h : es.map (·.1) = m.ents) : encM (m.wes es) = encM m := by
  unfold encM
  rw [rightM_wes h, bodyM_wes h]
theorem errM_wes {m : Ms} {es : List (En × SV)} (h : es.map (·.1) = m.ents) : errM (m.wes es) = errM m := by
  unfold errM
  rw [rightM_wes h]

/-- what a message that may be has -/
structure LayOk (m : Ms) : Prop where
  es4 : m.es.length ≤ 4
  right : ∀ z ∈ m.es, z.1.right = true
  d : m.D.length ≤ 256
  off : 0 ≤ m.off ∧ m.off ≤ 32768
theorem follow_right {index term : Nat} : ∀ {l : List En} {i t : Nat}, followF index term l i t = true → ∀ e ∈ l, e.right = true
  | [], i, t, h, e, he => by simp at he
  | y :: l, i, t, h, e, he => by
    unfold followF at h
    simp only [Bool.and_eq_true] at h
    rcases List.mem_cons.1 he with rfl | he
    · exact h.1.1.1.1
    · exact follow_right h.2 e he
theorem right_ok {m : Ms} (h : rightM m = true) : LayOk m := by
  rw [rightM_same] at h
  simp only [Bool.and_eq_true] at h
  obtain ⟨_, _, _, h4, h5, h6⟩ := h
  unfold followB at h6
  simp only [Bool.and_eq_true] at h6
  unfold ask4 offB at h4
  simp at h4 h5
  refine ⟨by have := h6.1; rw [Ms.len_ents]; simpa using this, fun z hz => follow_right h6.2 z.1 (List.mem_map_of_mem hz), h5, h4.1⟩

theorem entL_le {e : En} (hr : e.right = true) (ht : e.term < 18446744073709551616) (hi : e.index < 18446744073709551616) : (entL e.kind e.term e.index e.T e.conf).length ≤ 160 ∧ e.T.length ≤ 128 := by
  have hr' : rightE e.kind e.term e.index e.T.length e.conf = true := hr
  unfold entL
  rw [hr']
  exact ⟨entB_le hr' ht hi, (right_kind hr').2⟩
theorem layE_le {e : En} (hr : e.right = true) (ht : e.term < 18446744073709551616) (hi : e.index < 18446744073709551616) : (layE e).length ≤ 170 := by
  have h1 := (entL_le hr ht hi).1
  have h2 := numB_le (n := (entL e.kind e.term e.index e.T e.conf).length) (by omega)
  unfold layE
  simp
  omega
theorem layEs_le : ∀ {l : List En}, (∀ e ∈ l, e.right = true ∧ e.term < 18446744073709551616 ∧ e.index < 18446744073709551616) → (layEs l).length ≤ 170 * l.length
  | [], _ => by simp [layEs]
  | e :: l, h => by
    have h1 := layEs_le (l := l) fun x hx => h x (List.mem_cons_of_mem _ hx)
    obtain ⟨h2, h3, h4⟩ := h e (by simp)
    have := layE_le h2 h3 h4
    simp [layEs]
    omega
theorem layF_le {m : Ms} (ok : LayOk m) (N : MsN m) (trm : ∀ z ∈ m.es, z.1.term < 18446744073709551616 ∧ z.1.index < 18446744073709551616) (j : Nat) : (layF m j).length ≤ 700 := by
  have n0 := numB_le N.term
  have n1 := numB_le N.index
  have n2 := numB_le N.lt
  have n3 := numB_le N.cm
  have n4 := numB_le N.bi
  have n5 := numB_le N.bt
  have n6 := numB_le (n := m.off.toNat) (by have := ok.off; omega)
  have n7 := numB_le (n := m.D.length) (by have := ok.d; omega)
  have n8 := numB_le (n := m.es.length) (by have := ok.es4; omega)
  have n9 := layEs_le (l := m.ents) fun e he => by
    obtain ⟨z, hz, rfl⟩ := List.mem_map.1 he
    exact ⟨ok.right z hz, trm z hz⟩
  rw [← Ms.len_ents] at n9
  have := ok.es4
  have := ok.d
  unfold layF
  split <;> simp <;> omega
theorem layFromM_le {m : Ms} (ok : LayOk m) (N : MsN m) (trm : ∀ z ∈ m.es, z.1.term < 18446744073709551616 ∧ z.1.index < 18446744073709551616) : ∀ (n j : Nat), (layFromM m n j).length ≤ 700 * n
  | 0, j => by simp [layFromM]
  | n + 1, j => by
    have h1 := layF_le ok N trm j
    have h2 := layFromM_le ok N trm n (j + 1)
    unfold layFromM
    split <;> simp <;> omega

theorem WStep.idle {h h' : Heap} {i : Nat} {l : List UInt8} (w : Wr h i l) (m : Mod (fun _ => False) h h') : WStep h i l h' [] := by
  obtain ⟨a1, a2⟩ := wr_other w m fun _ _ h => h
  exact ⟨by simpa using a1, m.mono fun _ _ h => h.elim, fun j hj => .inl (a2 j hj)⟩

theorem spec104 {h : Heap} {i : Nat} {l : List UInt8} (b : Bool) (w : Wr h i l) (hl : l.length ≤ 140737488353280) : ∃ h', call 104 [[.sc (.ptr i 0 1)], [.sc (.bool b)]] h = some ([], h') ∧ WStep h i l h' [flagB b] := by
  cases b
  · obtain ⟨g, e, st⟩ := spec61 0 w hl
    have e : call 61 [[.sc (.ptr i 0 1)], [.sc (.int .u8 0)]] h = some ([], g) := e
    refine ⟨_, callX (hh := trim h g []) rfl (by rfl : F 104 = some M.a104) (fun R RO RD RT E => ?_), st.trim w []⟩
    simp [M.a104, E.eqs, e]
  · obtain ⟨g, e, st⟩ := spec61 1 w hl
    have e : call 61 [[.sc (.ptr i 0 1)], [.sc (.int .u8 1)]] h = some ([], g) := e
    refine ⟨_, callX (hh := trim h g []) rfl (by rfl : F 104 = some M.a104) (fun R RO RD RT E => ?_), st.trim w []⟩
    simp [M.a104, E.eqs, e]

section
variable {h0 : Heap} {i : Nat} {xe xd : SV} {m : Ms}

set_option maxHeartbeats 1000000 in
theorem lay_loop {es : List (En × SV)} (hE : EsAt h0 xe es) (hn : es.length ≤ 4) (hR : ∀ z ∈ es, z.1.right = true) : ∀ (n k : Nat) (H : Heap) (w : List UInt8) (e : Env), k + n = es.length → LI h0 H i w → w.length + 200 * n ≤ 2 ^ 36 → e.get 0 = [.sc (.ptr i 0 1)] → e.get 87 = [.sc xe] → e.get 88 = [.sc (.int .i64 es.length)] → e.get 89 = [.sc (.int .i64 k)] →
    ∃ (H' : Heap) (e' : Env), loopE F O (.loop [0, 87, 88, 89] M.b62_0) e H = some (.exit 1, e', H') ∧ WStep H i w H' (layEs ((es.drop k).map (·.1)))
  | 0, k, H, w, e, hk, li, hw, e0, e1, e2, e3 => by
    have hd : es.drop k = [] := List.drop_eq_nil_of_le (by omega)
    have c2 : ¬ k < es.length := by omega
    refine ⟨H, [(0, [.sc (.ptr i 0 1)]), (87, [.sc xe]), (88, [.sc (.int .i64 es.length)]), (89, [.sc (.int .i64 k)]), (90, [.sc (.bool false)])], exitM fun R RO RD RT E => ?_, by rw [hd]; exact WStep.refl li.wr⟩
    simp [M.b62_0, E.eqs, e0, e1, e2, e3, c2]
  | n + 1, k, H, w, e, hk, li, hw, e0, e1, e2, e3 => by
    have hlt : k < es.length := by omega
    obtain ⟨z, hz⟩ : ∃ z, es[k]? = some z := ⟨_, List.getElem?_eq_getElem hlt⟩
    have hd : es.drop k = z :: es.drop (k + 1) := by
      rw [List.drop_eq_getElem_cons hlt]
      congr 1
      rw [List.getElem?_eq_getElem hlt] at hz
      injection hz
    have hzm := List.mem_of_getElem? hz
    have hEH := hE.mod li.mod
    have ld := loadA_ent hEH.row hz
    have ix := ixsA_row hEH.row hlt
    obtain ⟨H1, hH1⟩ : ∃ H1 : Heap, H1 = H ++ [⟨.var, z.1.c z.2⟩] := ⟨_, rfl⟩
    have m1 : Mod (fun _ => False) H H1 := by rw [hH1]; exact Mod.app _ _ _
    have b1 : H1[H.length]? = some ⟨.var, z.1.c z.2⟩ := by rw [hH1]; simp
    have trm := hE.trm z hzm
    have hle := entL_le (hR z hzm) trm.1 trm.2
    obtain ⟨H2, y, q2, f2⟩ := spec40 (kind := z.1.kind) (conf := z.1.conf) ((hEH.dat z hzm).mod m1 fun _ _ h => h) trm.1 trm.2
    have q2 : call 40 [[.agg (z.1.c z.2)]] H1 = some ([.sc y, .sc (.int .i64 (entE z.1.kind z.1.term z.1.index z.1.T z.1.conf))], H2) := q2
    have m12 := m1.trans f2.mod fun _ _ h => h
    have i2 := WStep.idle li.wr m12
    have w2 : Wr H2 i w := by simpa using i2.wr
    obtain ⟨H3, q3, st3⟩ := spec91 w2 (by omega) f2.row (by omega) (fun j hj hs => by
      have h1 := f2.new j hj
      rcases i2.new j hs with h2 | h2
      · have := li.wr.wset_lt j h2; have := m1.1; omega
      · obtain ⟨x, hx, ho, hd⟩ := li.wr
        have := (wr_other (li.wr) m12 fun _ _ h => h).2 j hs
        have := li.wr.wset_lt j this
        have := m1.1
        omega)
    have st : WStep H i w H3 (layE z.1) := by
      have := i2.trans (h'' := H3) (m' := layE z.1) (by simpa [layE] using st3)
      simpa using this
    obtain ⟨H', e', lo, stf⟩ := lay_loop hE hn hR n (k + 1) H3 (w ++ layE z.1) [(0, [.sc (.ptr i 0 1)]), (87, [.sc xe]), (88, [.sc (.int .i64 es.length)]), (89, [.sc (.int .i64 ((k + 1 : Nat) : Int))])] (by omega) (li.step st) (by have := layE_le (hR z hzm) trm.1 trm.2; simp; omega) rfl rfl rfl rfl
    refine ⟨H', e', stepM (fun R RO RD RT E => ?_) lo, by rw [hd]; exact st.trans stf⟩
    clear lo stf st st3 i2 f2
    have w1 : IntKind.i64.wrap ((k : Int) + 1) = (k : Int) + 1 := wi64 (by omega) (by omega)
    have d0 : setCells [.int .i64 0, .int .u64 0, .int .u64 0, .nils, .int .i64 0] 0 (z.1.c z.2) = z.1.c z.2 := rfl
    have d1 : (z.1.c z.2).length = 5 := rfl
    have d2 : (z.1.c z.2).take 5 = z.1.c z.2 := rfl
    generalize z.1.c z.2 = zc at *
    have l5 : loadA H1 true 5 [.sc (.ptr H.length 0 5)] = some ([.agg zc], H1) := by simp [loadA, b1, d1, d2]
    simp [M.b62_0, E.eqs, e0, e1, e2, e3, hlt, ix, ld, d0, ← hH1, freshB, fldA, l5, storeA, b1, d1, q2, q3, w1]

set_option maxHeartbeats 2000000 in
theorem spec62 (a : MsAt h0 m xe xd) (N : MsN m) (ok : LayOk m) {h : Heap} {l : List UInt8} (li : LI h0 h i l) (hl : l.length ≤ 2 ^ 35) {j : Nat} (hj : j < 10) :
    ∃ h', call 62 [[.sc (.ptr i 0 1)], [.agg (m.cells xe xd)], [.sc (.int .i64 (pwM j))]] h = some ([], h') ∧ WStep h i l h' (layF m j) := by
  have w := li.wr
  obtain ⟨hb, hhb⟩ : ∃ hb : Heap, hb = h ++ [⟨.var, m.cells xe xd⟩] := ⟨_, rfl⟩
  have wb : Wr hb i l := by rw [hhb]; exact w.app _
  have bx : ∀ {g : Heap} {m' : List UInt8}, WStep hb i l g m' → g[h.length]? = some ⟨.var, m.cells xe xd⟩ := fun st => by rw [hhb] at st; exact WStep.box w st
  have be : ∀ {g : Heap} {m' : List UInt8}, WStep hb i l g m' → WStep h i l (trim h g []) m' := fun st => by rw [hhb] at st; exact (WStep.before w st).trim w []
  have mb : Mod (fun _ => False) h hb := by rw [hhb]; exact Mod.app _ _ _
  have bb : hb[h.length]? = some ⟨.var, m.cells xe xd⟩ := by rw [hhb]; simp
  have ab := (a.mod li.mod).mod mb
  have lib : LI h0 hb i l := by have := li.step (WStep.idle w mb); simpa using this
  have cl : (m.cells xe xd).length = 15 := rfl
  have c3 : ∀ hh, (m.cells xe xd)[3]'hh = .int .u64 m.term := fun _ => rfl
  have c4 : ∀ hh, (m.cells xe xd)[4]'hh = .int .u64 m.index := fun _ => rfl
  have c5 : ∀ hh, (m.cells xe xd)[5]'hh = .int .u64 m.lt := fun _ => rfl
  have c6 : ∀ hh, (m.cells xe xd)[6]'hh = xe := fun _ => rfl
  have c7 : ∀ hh, (m.cells xe xd)[7]'hh = .int .u64 m.cm := fun _ => rfl
  have c8 : ∀ hh, (m.cells xe xd)[8]'hh = .bool m.rf := fun _ => rfl
  have c9 : ∀ hh, (m.cells xe xd)[9]'hh = .int .u64 m.bi := fun _ => rfl
  have c10 : ∀ hh, (m.cells xe xd)[10]'hh = .int .u64 m.bt := fun _ => rfl
  have c11 : ∀ hh, (m.cells xe xd)[11]'hh = .int .i64 m.bc := fun _ => rfl
  have c12 : ∀ hh, (m.cells xe xd)[12]'hh = .int .i64 m.off := fun _ => rfl
  have c13 : ∀ hh, (m.cells xe xd)[13]'hh = xd := fun _ => rfl
  have c14 : ∀ hh, (m.cells xe xd)[14]'hh = .bool m.la := fun _ => rfl
  rcases j10 hj with rfl | rfl | rfl | rfl | rfl | rfl | rfl | rfl | rfl | rfl
  · obtain ⟨g, e1, st⟩ := spec70 N.term wb (by omega)
    refine ⟨_, callX (hh := trim h g []) rfl (by rfl : F 62 = some M.a62) (fun R RO RD RT E => ?_), be st⟩
    clear st a ab li lib
    generalize m.cells xe xd = cs at *
    simp [M.a62, E.eqs, ← hhb, fldA, freshB, loadA, bb, cl, c3, pwM, e1]
  · obtain ⟨g, e1, st⟩ := spec70 N.index wb (by omega)
    refine ⟨_, callX (hh := trim h g []) rfl (by rfl : F 62 = some M.a62) (fun R RO RD RT E => ?_), be st⟩
    clear st a ab li lib
    generalize m.cells xe xd = cs at *
    simp [M.a62, E.eqs, ← hhb, fldA, freshB, loadA, bb, cl, c4, pwM, e1]
  · obtain ⟨g, e1, st⟩ := spec70 N.lt wb (by omega)
    refine ⟨_, callX (hh := trim h g []) rfl (by rfl : F 62 = some M.a62) (fun R RO RD RT E => ?_), be st⟩
    clear st a ab li lib
    generalize m.cells xe xd = cs at *
    simp [M.a62, E.eqs, ← hhb, fldA, freshB, loadA, bb, cl, c5, pwM, e1]
  · obtain ⟨g, e1, st⟩ := spec70 N.cm wb (by omega)
    refine ⟨_, callX (hh := trim h g []) rfl (by rfl : F 62 = some M.a62) (fun R RO RD RT E => ?_), be st⟩
    clear st a ab li lib
    generalize m.cells xe xd = cs at *
    simp [M.a62, E.eqs, ← hhb, fldA, freshB, loadA, bb, cl, c7, pwM, e1]
  · obtain ⟨g, e1, st⟩ := spec104 m.rf wb (by omega)
    refine ⟨_, callX (hh := trim h g []) rfl (by rfl : F 62 = some M.a62) (fun R RO RD RT E => ?_), be st⟩
    clear st a ab li lib
    generalize m.cells xe xd = cs at *
    simp [M.a62, E.eqs, ← hhb, fldA, freshB, loadA, bb, cl, c8, pwM, e1]
  · have n1 := numB_le N.bi
    have n2 := numB_le N.bt
    obtain ⟨b, hbd⟩ : ∃ b, b = UInt8.ofNat (m.bc % 256).toNat := ⟨_, rfl⟩
    have hw := byte_of m.bc
    rw [← hbd] at hw
    obtain ⟨g1, e1, st1⟩ := spec70 N.bi wb (by omega)
    obtain ⟨g2, e2, st2⟩ := spec70 N.bt st1.wr (by simp; omega)
    obtain ⟨g3, e3, st3⟩ := spec61 b st2.wr (by simp; omega)
    have b1 := bx st1
    have b2 := bx (st1.trans st2)
    refine ⟨_, callX (hh := trim h g3 []) rfl (by rfl : F 62 = some M.a62) (fun R RO RD RT E => ?_), ?_⟩
    · clear st1 st2 st3 a ab li lib bx be
      generalize m.cells xe xd = cs at *
      simp [M.a62, E.eqs, ← hhb, fldA, freshB, loadA, bb, b1, b2, cl, c9, c10, c11, pwM, e1, e2, e3, hw]
    · have := be (st1.trans (st2.trans (by simpa using st3)))
      unfold layF
      rw [← hbd]
      exact this
  · have ho := ok.off
    obtain ⟨n, hn⟩ : ∃ n : Nat, m.off = n := ⟨m.off.toNat, by omega⟩
    obtain ⟨g, e1, st⟩ := spec70 (n := n) (by omega) wb (by omega)
    have wr : IntKind.u64.wrap (n : Int) = n := wu64 (by omega) (by omega)
    refine ⟨_, callX (hh := trim h g []) rfl (by rfl : F 62 = some M.a62) (fun R RO RD RT E => ?_), ?_⟩
    · clear st a ab li lib
      rw [hn] at c12
      generalize m.cells xe xd = cs at *
      simp [M.a62, E.eqs, ← hhb, fldA, freshB, loadA, bb, cl, c12, pwM, e1, wr]
    · have := be st
      unfold layF
      rw [hn]
      exact this
  · obtain ⟨g, e1, st⟩ := spec104 m.la wb (by omega)
    refine ⟨_, callX (hh := trim h g []) rfl (by rfl : F 62 = some M.a62) (fun R RO RD RT E => ?_), be st⟩
    clear st a ab li lib
    generalize m.cells xe xd = cs at *
    simp [M.a62, E.eqs, ← hhb, fldA, freshB, loadA, bb, cl, c14, pwM, e1]
  · have hd := ok.d
    obtain ⟨g, e1, st⟩ := spec91 wb (by omega) ab.dat (by omega) (fun j hj hs => by have := lib.new j hs; have := a.dat.lt j hj; omega)
    refine ⟨_, callX (hh := trim h g []) rfl (by rfl : F 62 = some M.a62) (fun R RO RD RT E => ?_), be st⟩
    clear st a ab li lib
    generalize m.cells xe xd = cs at *
    simp [M.a62, E.eqs, ← hhb, fldA, freshB, loadA, bb, cl, c13, pwM, e1]
  · have h4 := ok.es4
    obtain ⟨g, e1, st⟩ := spec70 (n := m.es.length) (by omega) wb (by omega)
    have n1 := numB_le (n := m.es.length) (by omega)
    have b1 := bx st
    have wr : IntKind.u64.wrap (m.es.length : Int) = m.es.length := wu64 (by omega) (by omega)
    have lig := lib.step st
    have ln := lenA_row ab.es.row
    have lg := lenA_row (a.mod lig.mod).es.row
    obtain ⟨g2, e', lo, st2⟩ := lay_loop a.es h4 ok.right m.es.length 0 g (l ++ numB m.es.length) [(0, [.sc (.ptr i 0 1)]), (87, [.sc xe]), (88, [.sc (.int .i64 m.es.length)]), (89, [.sc (.int .i64 0)])] (by omega) lig (by simp; omega) rfl rfl rfl rfl
    have lo := loop_run lo
    have stt := be (st.trans st2)
    refine ⟨_, callX (hh := trim h g2 []) rfl (by rfl : F 62 = some M.a62) (fun R RO RD RT E => ?_), ?_⟩
    · have lo := E.run lo
      clear st st2 stt a ab li lib lig bx be
      generalize m.cells xe xd = cs at *
      simp [M.a62, E.eqs, ← hhb, fldA, freshB, loadA, bb, b1, cl, c6, pwM, ln, lg, wr, e1, lo]
    · rw [List.drop_zero] at stt
      exact stt

theorem encM_loop {p : Nat} (hp : h0[p]? = some ⟨.var, m.cells xe xd⟩) (a : MsAt h0 m xe xd) (N : MsN m) (ok : LayOk m) : ∀ (n j : Nat) (h : Heap) (w : List UInt8) (e : Env), j + n = 10 → LI h0 h i w → w.length + 700 * n ≤ 2 ^ 33 → e.get 1 = [.sc (.ptr p 0 15)] → e.get 4 = [.sc (.ptr i 0 1)] → e.get 5 = [.sc (.int .i64 (maskM m.k))] → e.get 6 = [.sc (.int .i64 (pwM j))] →
    ∃ h' e', loopE F O (.loop [1, 4, 5, 6] M.b27_0) e h = some (.exit 0, e', h') ∧ e'.get 4 = [.sc (.ptr i 0 1)] ∧ LI h0 h' i (w ++ layFromM m n j)
  | 0, j, h, w, e, hj, li, hw, e1, e4, e5, e6 => by
    have : j = 10 := by omega
    subst this
    have p7 : pwM 10 = 1024 := rfl
    rw [p7] at e6
    refine ⟨h, [(1, [.sc (.ptr p 0 15)]), (4, [.sc (.ptr i 0 1)]), (5, [.sc (.int .i64 (maskM m.k))]), (6, [.sc (.int .i64 1024)]), (30, [.sc (.bool false)])], exitM fun R RO RD RT E => ?_, rfl, by simpa [layFromM] using li⟩
    simp [M.b27_0, E.eqs, e1, e4, e5, e6]
  | n + 1, j, h, w, e, hj, li, hw, e1, e4, e5, e6 => by
    have hlt : j < 10 := by omega
    have mb := maskM_bit m.k j hlt
    have p1 := pwM_ne hlt
    have p2 := pwM_lt hlt
    have p3 := pwM_shl hlt
    have hle := layF_le ok N a.es.trm j
    have hB := li.mod.get hp fun h => h
    have hlen : (m.cells xe xd).length = 15 := rfl
    have ht : (m.cells xe xd).take 15 = m.cells xe xd := rfl
    cases hf : flM m.k j
    · obtain ⟨h', e', lo, g4, li'⟩ := encM_loop hp a N ok n (j + 1) h w [(1, [.sc (.ptr p 0 15)]), (4, [.sc (.ptr i 0 1)]), (5, [.sc (.int .i64 (maskM m.k))]), (6, [.sc (.int .i64 (pwM (j + 1)))])] (by omega) li (by omega) rfl rfl rfl rfl
      rw [hf] at mb
      simp only [Bool.false_eq_true, if_false] at mb
      refine ⟨h', e', stepM (fun R RO RD RT E => ?_) lo, g4, by rw [layFromM, hf]; simpa using li'⟩
      clear lo li'
      generalize pwM (j + 1) = pn at *
      generalize pwM j = pj at *
      simp [M.b27_0, E.eqs, e1, e4, e5, e6, p1, p2, p3, mb]
    · obtain ⟨h1, q1, st1⟩ := spec62 a N ok li (by omega) hlt
      have li1 := li.step st1
      obtain ⟨h', e', lo, g4, li'⟩ := encM_loop hp a N ok n (j + 1) h1 (w ++ layF m j) [(1, [.sc (.ptr p 0 15)]), (4, [.sc (.ptr i 0 1)]), (5, [.sc (.int .i64 (maskM m.k))]), (6, [.sc (.int .i64 (pwM (j + 1)))])] (by omega) li1 (by simp; omega) rfl rfl rfl rfl
      rw [hf] at mb
      simp only [if_true] at mb
      refine ⟨h', e', stepM (fun R RO RD RT E => ?_) lo, g4, by rw [layFromM, hf]; simpa using li'⟩
      clear lo li' st1 li1 a
      generalize pwM (j + 1) = pn at *
      generalize pwM j = pj at *
      generalize m.cells xe xd = cs at *
      simp [M.b27_0, E.eqs, e1, e4, e5, e6, p1, p2, p3, mb, loadA, hB, hlen, ht, q1]
end

set_option maxHeartbeats 1000000 in
theorem spec27 {h : Heap} {m : Ms} {xe xd : SV} (a : MsAt h m xe xd) (N : MsN m) :
    ∃ h' y, call 27 [[.agg (m.cells xe xd)]] h = some ([.sc y, .sc (.int .i64 (errM m))], h') ∧ Fresh h h' y (encM m) := by
  obtain ⟨hb, hhb⟩ : ∃ hb : Heap, hb = h ++ [⟨.var, m.cells xe xd⟩] := ⟨_, rfl⟩
  have bb : hb[h.length]? = some ⟨.var, m.cells xe xd⟩ := by rw [hhb]; simp
  have mb : Mod (fun _ => False) h hb := by rw [hhb]; exact Mod.app _ _ _
  have ab := a.mod mb
  have qr := spec24 ab
  have hlen : (m.cells xe xd).length = 15 := rfl
  have ht : (m.cells xe xd).take 15 = m.cells xe xd := rfl
  have c0 : ∀ hh, (m.cells xe xd)[0]'hh = .int .i64 m.k := fun _ => rfl
  have c1 : ∀ hh, (m.cells xe xd)[1]'hh = .int .i64 m.f := fun _ => rfl
  have c2 : ∀ hh, (m.cells xe xd)[2]'hh = .int .i64 m.t := fun _ => rfl
  unfold encM errM
  cases hc : rightM m
  · rw [hc] at qr
    have tr : trim h hb [.sc .nils, .sc (.int .i64 1)] = h := by rw [hhb]; exact trim_pure rfl
    refine ⟨_, .nils, callX (hh := h) rfl (by rfl : F 27 = some M.a27) (fun R RO RD RT E => ?_), Fresh.nils (Mod.refl _ _)⟩
    clear a ab
    generalize m.cells xe xd = cs at *
    simp [M.a27, E.eqs, ← hhb, bb, fldA, freshB, loadA, hlen, ht, qr, tr]
  · rw [hc] at qr
    have ok := right_ok hc
    have s0 := spec60 hb
    have l0 := li_new hb
    obtain ⟨b0, hb0⟩ : ∃ b, b = UInt8.ofNat (m.k % 256).toNat := ⟨_, rfl⟩
    obtain ⟨b1, hb1⟩ : ∃ b, b = UInt8.ofNat (m.f % 256).toNat := ⟨_, rfl⟩
    obtain ⟨b2, hb2⟩ : ∃ b, b = UInt8.ofNat (m.t % 256).toNat := ⟨_, rfl⟩
    have w0 := byte_of m.k
    have w1 := byte_of m.f
    have w2 := byte_of m.t
    rw [← hb0] at w0
    rw [← hb1] at w1
    rw [← hb2] at w2
    obtain ⟨g1, e1, st1⟩ := spec61 b0 l0.wr (by simp)
    have l1 := l0.step st1
    obtain ⟨g2, e2, st2⟩ := spec61 b1 l1.wr (by simp)
    have l2 := l1.step st2
    obtain ⟨g3, e3, st3⟩ := spec61 b2 l2.wr (by simp)
    have l3 := l2.step st3
    obtain ⟨g4, e', lo, g5, l4⟩ := encM_loop bb ab N ok 10 0 g3 _ [(1, [.sc (.ptr h.length 0 15)]), (4, [.sc (.ptr hb.length 0 1)]), (5, [.sc (.int .i64 (maskM m.k))]), (6, [.sc (.int .i64 1)])] (by omega) l3 (by simp) rfl rfl rfl rfl
    have lo := loop_run lo
    have hle := layFromM_le ok N a.es.trm 10 0
    obtain ⟨g6, y, e6, f6⟩ := spec64 l4.wr (by simp; omega)
    obtain ⟨g7, y2, e7, f7⟩ := spec63 f6.row (by simp; omega)
    have qf := fun h => spec50 h m.k
    have x0 : (hb ++ [⟨.var, [.nils]⟩])[h.length]? = some ⟨.var, m.cells xe xd⟩ := l0.mod.get bb fun h => h
    have x1 := l1.mod.get bb fun h => h
    have x2 := l2.mod.get bb fun h => h
    have x3 := l3.mod.get bb fun h => h
    have fr : Fresh h g7 y2 (sealB (bodyM m)) := by
      have := f7.after ((mb.trans l4.mod fun _ _ h => h).trans f6.mod fun _ _ h => h)
      unfold bodyM
      rw [← hb0, ← hb1, ← hb2]
      simpa using this
    refine ⟨_, y2, callX (hh := trim h g7 [.sc y2, .sc (.int .i64 0)]) rfl (by rfl : F 27 = some M.a27) (fun R RO RD RT E => ?_), fr.trim2 _⟩
    have lo := E.run lo
    clear fr f6 f7 l4 st1 st2 st3 l3 l2 l1 l0 a ab
    generalize m.cells xe xd = cs at *
    simp [M.a27, E.eqs, ← hhb, bb, fldA, freshB, loadA, hlen, ht, c0, c1, c2, qr, s0, x0, x1, x2, x3, w0, w1, w2, e1, e2, e3, qf, lo, g5, e6, e7]
end Go.Proofs.Ytoghoddofokekaa
end

section
set_option linter.unusedVariables false
set_option linter.unusedSimpArgs false
set_option maxRecDepth 100000
namespace Go.Proofs.Ytoghoddofokekaa
open Go.Abs

theorem Fresh.pass {h h1 h2 : Heap} {y : SV} {l : List UInt8} (a : Fresh h h1 y l) (m : Mod (fun _ => False) h1 h2) : Fresh h h2 y l :=
  ⟨a.own.mod m fun _ _ h => h, a.mod.trans m fun _ _ h => h, a.new⟩
theorem own_sl {h : Heap} {y : SV} {l : List UInt8} (hy : Own h y 5 1 l.length (Go.Abs.bytes l)) (hne : l ≠ []) : ∃ b n c, y = .sl b 0 n c := by
  rcases hy with ⟨_, h1, _⟩ | ⟨b, h1, _⟩
  · exact absurd (List.eq_nil_of_length_eq_zero h1) hne
  · exact ⟨b, _, _, h1⟩
theorem trim_sl (h h' : Heap) (b n c : Nat) : Go.Abs.trim h h' [.sc (.sl b 0 n c)] = h' := by simp [Go.Abs.trim, pureT, pureV, pureS]

theorem spec68 (h : Heap) (b : Bool) : call 68 [[.sc (.bool b)]] h = some ([.sc (.int .u8 (flagB b).toNat)], h) := by
  refine callX rfl (by rfl : F 68 = some M.a68) (fun R RO RD RT E => ?_)
  cases b <;> simp [M.a68, E.eqs, flagB]

theorem spec66 {h : Heap} {y : SV} {l : List UInt8} (hy : Own h y 5 1 l.length (Go.Abs.bytes l)) (hne : l ≠ []) (hl : l.length ≤ 2 ^ 30) {f w : List UInt8} (hf : f.length < 1000) {n : Nat} (hn : n < 18446744073709551616) :
    ∃ h' y', call 66 [[.sc y], [.sc (.str f)], [.sc (.str w)], [.sc (.int .u64 n)]] h = some ([.sc y'], h') ∧ OStep h y l h' y' (if hasL f w then numB n else []) := by
  have qh := spec56 h (w := w) hf
  obtain ⟨b, n0, c0, rfl⟩ := own_sl hy hne
  cases hh : hasL f w
  · rw [hh] at qh
    refine ⟨h, _, callX (hh := h) rfl (by rfl : F 66 = some M.a66) (fun R RO RD RT E => ?_), OStep.refl hy⟩
    simp [M.a66, E.eqs, qh]
  · rw [hh] at qh
    obtain ⟨g1, y1, e1, f1⟩ := spec65 h hn
    have nl := numB_le hn
    obtain ⟨a1, st⟩ := own_app (hy.mod f1.mod fun _ _ h => h) (srcOf_row f1.row) (by simp [lim]; omega)
    have so : OStep h (.sl b 0 n0 c0) l _ _ (numB n) := ⟨st.own, (f1.mod.mono fun _ _ h => h.elim).trans st.mod fun j _ h => h, fun j hj => (st.new j hj).imp id fun h2 => Nat.le_trans f1.mod.1 h2⟩
    have tr := trim_sl h (appH g1 (.sl b 0 n0 c0) 5 1 (numB n).length (Go.Abs.bytes (numB n))) b (n0 + (numB n).length) (c0 + (numB n).length * 1)
    have av : appV g1 (.sl b 0 n0 c0) 1 (numB n).length = .sl b 0 (n0 + (numB n).length) (c0 + (numB n).length * 1) := rfl
    rw [av] at a1 so
    generalize appH g1 (.sl b 0 n0 c0) 5 1 (numB n).length (Go.Abs.bytes (numB n)) = g2 at *
    refine ⟨g2, _, callX (hh := g2) rfl (by rfl : F 66 = some M.a66) (fun R RO RD RT E => ?_), so⟩
    clear so st f1
    generalize (n0 + (numB n).length) = n1 at *
    generalize (c0 + (numB n).length * 1) = c1 at *
    simp [M.a66, E.eqs, qh, e1, a1, tr]

theorem imm_app3 {h : Heap} {y : SV} {l : List UInt8} (hy : Row h y 1 l.length (Go.Abs.bytes l)) (hne : l ≠ []) (hl : l.length + 3 < lim) (a b c : UInt8) :
    appA h 5 1 1 (.imm 3 [.int .u8 a.toNat, .int .u8 b.toNat, .int .u8 c.toNat]) (.sc y) = some ([.sc (.sl h.length 0 (a :: b :: c :: l).length (a :: b :: c :: l).length)], h ++ [⟨.row 5 1, Go.Abs.bytes (a :: b :: c :: l)⟩]) ∧
    Fresh h (h ++ [⟨.row 5 1, Go.Abs.bytes (a :: b :: c :: l)⟩]) (.sl h.length 0 (a :: b :: c :: l).length (a :: b :: c :: l).length) (a :: b :: c :: l) := by
  refine ⟨?_, copy_fresh h (a :: b :: c :: l)⟩
  have h1 := srcOf_row hy
  have h2 : l.length ≠ 0 := by simpa using hne
  simp only [appA, h1]
  rw [if_pos ⟨h2, rfl, by omega⟩]
  have : 3 + l.length = l.length + 3 := by omega
  simp [this, Go.Abs.bytes]

abbrev envE (p : Nat) (f : List UInt8) (y : SV) : Env := [(1, [.sc (.ptr p 0 15)]), (4, [.sc (.str f)]), (5, [.sc y])]
structure EnS (e : Env) (p : Nat) (f : List UInt8) (y : SV) : Prop where
  g1 : e.get 1 = [.sc (.ptr p 0 15)]
  g4 : e.get 4 = [.sc (.str f)]
  g5 : e.get 5 = [.sc y]
theorem EnS.of (p : Nat) (f : List UInt8) (y : SV) : EnS (envE p f y) p f y := ⟨rfl, rfl, rfl⟩
def optF (m : Ms) (j : Nat) : List UInt8 := if flM m.k j then layF m j else []

section
variable {hb g : Heap} {p : Nat} {m : Ms} {xe xd y : SV} {l : List UInt8}

theorem en_head (hp : hb[p]? = some ⟨.var, m.cells xe xd⟩) (N : MsN m) : ∃ g y, runE F O (sqh (sqd 3 M.a28.body)) [(1, [.sc (.ptr p 0 15)]), (4, [.sc (.str (ofM m.k))])] hb = some (.normal, envE p (ofM m.k) y, g) ∧
    Fresh hb g y (UInt8.ofNat (m.k % 256).toNat :: UInt8.ofNat (m.f % 256).toNat :: UInt8.ofNat (m.t % 256).toNat :: numB m.term) := by
  obtain ⟨b0, hb0⟩ : ∃ b, b = UInt8.ofNat (m.k % 256).toNat := ⟨_, rfl⟩
  obtain ⟨b1, hb1⟩ : ∃ b, b = UInt8.ofNat (m.f % 256).toNat := ⟨_, rfl⟩
  obtain ⟨b2, hb2⟩ : ∃ b, b = UInt8.ofNat (m.t % 256).toNat := ⟨_, rfl⟩
  have w0 := byte_of m.k
  have w1 := byte_of m.f
  have w2 := byte_of m.t
  rw [← hb0] at w0
  rw [← hb1] at w1
  rw [← hb2] at w2
  rw [← hb0, ← hb1, ← hb2]
  have nt := numB_le N.term
  obtain ⟨g1, y1, e1, f1⟩ := spec65 hb N.term
  obtain ⟨a1, f2⟩ := imm_app3 f1.row (numB_ne _) (by simp [lim]; omega) b0 b1 b2
  have ff : Fresh hb _ _ (b0 :: b1 :: b2 :: numB m.term) := f2.after f1.mod
  have x1 := f1.mod.get hp fun h => h
  have x2 := ff.mod.get hp fun h => h
  generalize g1 ++ [⟨.row 5 1, Go.Abs.bytes (b0 :: b1 :: b2 :: numB m.term)⟩] = g2 at *
  generalize SV.sl g1.length 0 (b0 :: b1 :: b2 :: numB m.term).length (b0 :: b1 :: b2 :: numB m.term).length = y2 at *
  refine ⟨g2, y2, runM fun R RO RD RT E => ?_, ff⟩
  have cl : (m.cells xe xd).length = 15 := rfl
  have c0 : ∀ hh, (m.cells xe xd)[0]'hh = .int .i64 m.k := fun _ => rfl
  have c1 : ∀ hh, (m.cells xe xd)[1]'hh = .int .i64 m.f := fun _ => rfl
  have c2 : ∀ hh, (m.cells xe xd)[2]'hh = .int .i64 m.t := fun _ => rfl
  have c3 : ∀ hh, (m.cells xe xd)[3]'hh = .int .u64 m.term := fun _ => rfl
  clear ff f1 f2
  generalize m.cells xe xd = cs at *
  generalize ofM m.k = o at *
  simp [M.a28, sqd, sqh, E.eqs, fldA, freshB, loadA, hp, x1, x2, cl, c0, c1, c2, c3, w0, w1, w2, e1, a1]

theorem len_o (k : Int) : (ofM k).length < 1000 := by have := ofM_len k; omega

theorem en_put5 {e : Env} (s : EnS e p (ofM m.k) y) (hp : hb[p]? = some ⟨.var, m.cells xe xd⟩) (N : MsN m) (f : Fresh hb g y l) (hne : l ≠ []) (hl : l.length ≤ 2 ^ 30) : ∃ g' y', runE F O (sqh (sqd 4 M.a28.body)) e g = some (.normal, envE p (ofM m.k) y', g') ∧ Fresh hb g' y' (l ++ optF m 1) := by
  obtain ⟨g', y', q, st⟩ := spec66 f.own hne hl (len_o m.k) (w := m_index) N.index
  rw [hasM_index] at st
  refine ⟨g', y', runM fun R RO RD RT E => ?_, f.app st⟩
  have x1 := f.mod.get hp fun h => h
  obtain ⟨s1, s4, s5⟩ := s
  have cl : (m.cells xe xd).length = 15 := rfl
  have c4 : ∀ hh, (m.cells xe xd)[4]'hh = .int .u64 m.index := fun _ => rfl
  clear f st
  generalize m.cells xe xd = cs at *
  generalize ofM m.k = o at *
  simp [M.a28, sqd, sqh, E.eqs, s1, s4, s5, fldA, freshB, loadA, x1, cl, c4, q]
theorem en_put6 {e : Env} (s : EnS e p (ofM m.k) y) (hp : hb[p]? = some ⟨.var, m.cells xe xd⟩) (N : MsN m) (f : Fresh hb g y l) (hne : l ≠ []) (hl : l.length ≤ 2 ^ 30) : ∃ g' y', runE F O (sqh (sqd 5 M.a28.body)) e g = some (.normal, envE p (ofM m.k) y', g') ∧ Fresh hb g' y' (l ++ optF m 2) := by
  obtain ⟨g', y', q, st⟩ := spec66 f.own hne hl (len_o m.k) (w := m_logterm) N.lt
  rw [hasM_logterm] at st
  refine ⟨g', y', runM fun R RO RD RT E => ?_, f.app st⟩
  have x1 := f.mod.get hp fun h => h
  obtain ⟨s1, s4, s5⟩ := s
  have cl : (m.cells xe xd).length = 15 := rfl
  have c4 : ∀ hh, (m.cells xe xd)[5]'hh = .int .u64 m.lt := fun _ => rfl
  clear f st
  generalize m.cells xe xd = cs at *
  generalize ofM m.k = o at *
  simp [M.a28, sqd, sqh, E.eqs, s1, s4, s5, fldA, freshB, loadA, x1, cl, c4, q]
theorem en_put7 {e : Env} (s : EnS e p (ofM m.k) y) (hp : hb[p]? = some ⟨.var, m.cells xe xd⟩) (N : MsN m) (f : Fresh hb g y l) (hne : l ≠ []) (hl : l.length ≤ 2 ^ 30) : ∃ g' y', runE F O (sqh (sqd 6 M.a28.body)) e g = some (.normal, envE p (ofM m.k) y', g') ∧ Fresh hb g' y' (l ++ optF m 3) := by
  obtain ⟨g', y', q, st⟩ := spec66 f.own hne hl (len_o m.k) (w := m_commit) N.cm
  rw [hasM_commit] at st
  refine ⟨g', y', runM fun R RO RD RT E => ?_, f.app st⟩
  have x1 := f.mod.get hp fun h => h
  obtain ⟨s1, s4, s5⟩ := s
  have cl : (m.cells xe xd).length = 15 := rfl
  have c4 : ∀ hh, (m.cells xe xd)[7]'hh = .int .u64 m.cm := fun _ => rfl
  clear f st
  generalize m.cells xe xd = cs at *
  generalize ofM m.k = o at *
  simp [M.a28, sqd, sqh, E.eqs, s1, s4, s5, fldA, freshB, loadA, x1, cl, c4, q]
theorem en_put14 {e : Env} (s : EnS e p (ofM m.k) y) (hp : hb[p]? = some ⟨.var, m.cells xe xd⟩) (ok : LayOk m) (f : Fresh hb g y l) (hne : l ≠ []) (hl : l.length ≤ 2 ^ 30) : ∃ g' y', runE F O (sqh (sqd 10 M.a28.body)) e g = some (.normal, envE p (ofM m.k) y', g') ∧ Fresh hb g' y' (l ++ optF m 6) := by
  have ho := ok.off
  obtain ⟨n, hn⟩ : ∃ n : Nat, m.off = n := ⟨m.off.toNat, by omega⟩
  obtain ⟨g', y', q, st⟩ := spec66 f.own hne hl (len_o m.k) (w := m_offset) (n := n) (by omega)
  rw [hasM_offset] at st
  have wr : IntKind.u64.wrap (n : Int) = n := wu64 (by omega) (by omega)
  refine ⟨g', y', runM fun R RO RD RT E => ?_, ?_⟩
  · have x1 := f.mod.get hp fun h => h
    obtain ⟨s1, s4, s5⟩ := s
    have cl : (m.cells xe xd).length = 15 := rfl
    have c4 : ∀ hh, (m.cells xe xd)[12]'hh = .int .i64 m.off := fun _ => rfl
    rw [hn] at c4
    clear f st
    generalize m.cells xe xd = cs at *
    generalize ofM m.k = o at *
    simp [M.a28, sqd, sqh, E.eqs, s1, s4, s5, fldA, freshB, loadA, x1, cl, c4, wr, q]
  · have e : optF m 6 = if flM m.k 6 then numB n else [] := by unfold optF layF; rw [hn]; rfl
    rw [e]
    exact f.app st

set_option maxHeartbeats 1000000 in
theorem ent_loop (hp : hb[p]? = some ⟨.var, m.cells xe xd⟩) (hE : EsAt hb xe m.es) (ok : LayOk m) {f : List UInt8} : ∀ (n k : Nat) (H : Heap) (y : SV) (l : List UInt8) (e : Env), k + n = m.es.length → Fresh hb H y l → l.length + 200 * n ≤ 2 ^ 30 → e.get 1 = [.sc (.ptr p 0 15)] → e.get 4 = [.sc (.str f)] → e.get 5 = [.sc y] → e.get 6 = [.sc (.int .i64 k)] →
    ∃ (H' : Heap) (y' : SV) (e' : Env), loopE F O (.loop [1, 4, 5, 6] M.b28_0) e H = some (.exit 0, e', H') ∧ e'.get 1 = [.sc (.ptr p 0 15)] ∧ e'.get 4 = [.sc (.str f)] ∧ e'.get 5 = [.sc y'] ∧ Fresh hb H' y' (l ++ layEs ((m.es.drop k).map (·.1)))
  | 0, k, H, y, l, e, hk, fr, hl, e1, e4, e5, e6 => by
    have hd : m.es.drop k = [] := List.drop_eq_nil_of_le (by omega)
    have c2 : ¬ k < m.es.length := by omega
    have bp := fr.mod.get hp fun h => h
    have cl : (m.cells xe xd).length = 15 := rfl
    have c6 : ∀ hh, (m.cells xe xd)[6]'hh = xe := fun _ => rfl
    have ln := lenA_row (hE.mod fr.mod).row
    refine ⟨H, y, [(1, [.sc (.ptr p 0 15)]), (4, [.sc (.str f)]), (5, [.sc y]), (6, [.sc (.int .i64 k)]), (57, [.sc (.bool false)])], exitM fun R RO RD RT E => ?_, rfl, rfl, rfl, by rw [hd]; simpa [layEs] using fr⟩
    clear fr
    generalize m.cells xe xd = cs at *
    simp [M.b28_0, E.eqs, e1, e4, e5, e6, c2, fldA, freshB, loadA, bp, cl, c6, ln]
  | n + 1, k, H, y, l, e, hk, fr, hl, e1, e4, e5, e6 => by
    have hlt : k < m.es.length := by omega
    obtain ⟨z, hz⟩ : ∃ z, m.es[k]? = some z := ⟨_, List.getElem?_eq_getElem hlt⟩
    have hd : m.es.drop k = z :: m.es.drop (k + 1) := by
      rw [List.drop_eq_getElem_cons hlt]
      congr 1
      rw [List.getElem?_eq_getElem hlt] at hz
      injection hz
    have hzm := List.mem_of_getElem? hz
    have hEH := hE.mod fr.mod
    have bp := fr.mod.get hp fun h => h
    have cl : (m.cells xe xd).length = 15 := rfl
    have c6 : ∀ hh, (m.cells xe xd)[6]'hh = xe := fun _ => rfl
    have ln := lenA_row hEH.row
    have ld := loadA_ent hEH.row hz
    have ix := ixsA_row hEH.row hlt
    have trm := hE.trm z hzm
    have hle := entL_le (ok.right z hzm) trm.1 trm.2
    obtain ⟨H1, y1, q1, f1⟩ := spec41 (kind := z.1.kind) (conf := z.1.conf) (hEH.dat z hzm) trm.1 trm.2
    have q1 : call 41 [[.agg (z.1.c z.2)]] H = some ([.sc y1, .sc (.int .i64 (entE z.1.kind z.1.term z.1.index z.1.T z.1.conf))], H1) := q1
    obtain ⟨H2, y2, q2, f2⟩ := spec67 f1.row (by omega)
    have nl := numB_le (n := (entL z.1.kind z.1.term z.1.index z.1.T z.1.conf).length) (by omega)
    have fr2 := (fr.pass f1.mod).pass f2.mod
    obtain ⟨a3, so3⟩ := own_app fr2.own (srcOf_row f2.row) (by simp [lim]; omega)
    have fr3 := fr2.app so3
    have e3 : (numB (entL z.1.kind z.1.term z.1.index z.1.T z.1.conf).length ++ entL z.1.kind z.1.term z.1.index z.1.T z.1.conf) = layE z.1 := rfl
    have hle2 := layE_le (ok.right z hzm) trm.1 trm.2
    rw [e3] at a3 fr3
    generalize appV H2 y 1 (layE z.1).length = y3 at *
    generalize appH H2 y 5 1 (layE z.1).length (Go.Abs.bytes (layE z.1)) = H3 at *
    obtain ⟨H', y', e', lo, g1, g4, g5, frf⟩ := ent_loop hp hE ok n (k + 1) H3 y3 (l ++ layE z.1) [(1, [.sc (.ptr p 0 15)]), (4, [.sc (.str f)]), (5, [.sc y3]), (6, [.sc (.int .i64 ((k + 1 : Nat) : Int))])] (by omega) fr3 (by simp; omega) rfl rfl rfl rfl
    refine ⟨H', y', e', stepM (fun R RO RD RT E => ?_) lo, g1, g4, g5, by rw [hd, List.map_cons, layEs, ← List.append_assoc]; exact frf⟩
    clear lo frf fr fr2 fr3 f1 f2 so3 hE hEH
    have := ok.es4
    have w1 : IntKind.i64.wrap ((k : Int) + 1) = (k : Int) + 1 := wi64 (by omega) (by omega)
    have l6 : loadA H false 1 [.sc (.ptr p 6 15)] = some ([.sc xe], H) := by simp [loadA, bp, cl, c6]
    generalize z.1.c z.2 = zc at *
    generalize m.cells xe xd = cs at *
    simp [M.b28_0, E.eqs, e1, e4, e5, e6, hlt, fldA, freshB, bp, cl, l6, ln, ix, ld, q1, q2, a3, w1]

theorem en_ent (hp : hb[p]? = some ⟨.var, m.cells xe xd⟩) (a : MsAt hb m xe xd) (ok : LayOk m) (f : Fresh hb g y l) (hl : l.length ≤ 2 ^ 29) : ∃ g' y' e', runE F O (sqd 1 (sqh (sqd 7 M.a28.body))) [(1, [.sc (.ptr p 0 15)]), (4, [.sc (.str (ofM m.k))]), (5, [.sc y]), (45, [.sc (.bool (flM m.k 9))])] g = some (.normal, e', g') ∧ EnS e' p (ofM m.k) y' ∧ Fresh hb g' y' (l ++ optF m 9) := by
  unfold optF
  cases hf : flM m.k 9
  · refine ⟨g, y, [(1, [.sc (.ptr p 0 15)]), (4, [.sc (.str (ofM m.k))]), (5, [.sc y]), (45, [.sc (.bool false)])], runM fun R RO RD RT E => ?_, ⟨rfl, rfl, rfl⟩, by simpa using f⟩
    generalize ofM m.k = o at *
    simp [M.a28, sqd, sqh, E.eqs]
  · have h4 := ok.es4
    have x1 := f.mod.get hp fun h => h
    have cl : (m.cells xe xd).length = 15 := rfl
    have c6 : ∀ hh, (m.cells xe xd)[6]'hh = xe := fun _ => rfl
    have ln := lenA_row (a.mod f.mod).es.row
    obtain ⟨g1, y1, e1, f1⟩ := spec65 g (n := m.es.length) (by omega)
    have nl := numB_le (n := m.es.length) (by omega)
    have wr : IntKind.u64.wrap (m.es.length : Int) = m.es.length := wu64 (by omega) (by omega)
    have fr1 := f.pass f1.mod
    obtain ⟨a2, so2⟩ := own_app fr1.own (srcOf_row f1.row) (by simp [lim]; omega)
    have fr2 := fr1.app so2
    generalize appV g1 y 1 (numB m.es.length).length = y2 at *
    generalize appH g1 y 5 1 (numB m.es.length).length (Go.Abs.bytes (numB m.es.length)) = g2 at *
    obtain ⟨g3, y3, e', lo, q1, q4, q5, fr3⟩ := ent_loop hp a.es ok (f := ofM m.k) m.es.length 0 g2 y2 (l ++ numB m.es.length) [(1, [.sc (.ptr p 0 15)]), (4, [.sc (.str (ofM m.k))]), (5, [.sc y2]), (6, [.sc (.int .i64 0)])] (by omega) fr2 (by simp; omega) rfl rfl rfl rfl
    have lo := loop_run lo
    refine ⟨g3, y3, envE p (ofM m.k) y3, runM fun R RO RD RT E => ?_, EnS.of _ _ _, ?_⟩
    · have lo := E.run lo
      clear f fr1 fr2 fr3 so2 f1 a
      generalize m.cells xe xd = cs at *
      generalize ofM m.k = o at *
      simp [M.a28, sqd, sqh, E.eqs, fldA, freshB, loadA, x1, cl, c6, ln, wr, e1, a2, lo, q1, q4, q5]
    · rw [if_pos rfl]
      rw [List.drop_zero, List.append_assoc] at fr3
      exact fr3

theorem en_flag (b : Bool) (f : Fresh hb g y l) (hl : l.length ≤ 2 ^ 29) : ∃ g' y', appA g 5 1 1 (.sc y) (.imm 1 [.int .u8 (flagB b).toNat]) = some ([.sc y'], g') ∧ Fresh hb g' y' (l ++ [flagB b]) := by
  obtain ⟨a3, so3⟩ := own_app1 f.own (flagB b) (by simp [lim]; omega)
  exact ⟨_, _, a3, f.app so3⟩
theorem en_flag11 (hp : hb[p]? = some ⟨.var, m.cells xe xd⟩) (f : Fresh hb g y l) (hl : l.length ≤ 2 ^ 29) : ∃ g' y' e', runE F O (sqd 1 (sqh (sqd 8 M.a28.body))) [(1, [.sc (.ptr p 0 15)]), (4, [.sc (.str (ofM m.k))]), (5, [.sc y]), (74, [.sc (.bool (flM m.k 4))])] g = some (.normal, e', g') ∧ EnS e' p (ofM m.k) y' ∧ Fresh hb g' y' (l ++ optF m 4) := by
  unfold optF
  cases hf : flM m.k 4
  · refine ⟨g, y, [(1, [.sc (.ptr p 0 15)]), (4, [.sc (.str (ofM m.k))]), (5, [.sc y]), (74, [.sc (.bool false)])], runM fun R RO RD RT E => ?_, ⟨rfl, rfl, rfl⟩, by simpa using f⟩
    generalize ofM m.k = o at *
    simp [M.a28, sqd, sqh, E.eqs]
  · have x1 := f.mod.get hp fun h => h
    have cl : (m.cells xe xd).length = 15 := rfl
    have c6 : ∀ hh, (m.cells xe xd)[8]'hh = .bool m.rf := fun _ => rfl
    have qf := spec68 g m.rf
    obtain ⟨g1, y1, a1, f1⟩ := en_flag m.rf f hl
    refine ⟨g1, y1, envE p (ofM m.k) y1, runM fun R RO RD RT E => ?_, EnS.of _ _ _, by rw [if_pos rfl]; unfold layF; exact f1⟩
    clear f f1
    generalize m.cells xe xd = cs at *
    generalize ofM m.k = o at *
    simp [M.a28, sqd, sqh, E.eqs, fldA, freshB, loadA, x1, cl, c6, qf, a1]

theorem en_flag16 (hp : hb[p]? = some ⟨.var, m.cells xe xd⟩) (f : Fresh hb g y l) (hl : l.length ≤ 2 ^ 29) : ∃ g' y' e', runE F O (sqd 1 (sqh (sqd 11 M.a28.body))) [(1, [.sc (.ptr p 0 15)]), (4, [.sc (.str (ofM m.k))]), (5, [.sc y]), (107, [.sc (.bool (flM m.k 7))])] g = some (.normal, e', g') ∧ EnS e' p (ofM m.k) y' ∧ Fresh hb g' y' (l ++ optF m 7) := by
  unfold optF
  cases hf : flM m.k 7
  · refine ⟨g, y, [(1, [.sc (.ptr p 0 15)]), (4, [.sc (.str (ofM m.k))]), (5, [.sc y]), (107, [.sc (.bool false)])], runM fun R RO RD RT E => ?_, ⟨rfl, rfl, rfl⟩, by simpa using f⟩
    generalize ofM m.k = o at *
    simp [M.a28, sqd, sqh, E.eqs]
  · have x1 := f.mod.get hp fun h => h
    have cl : (m.cells xe xd).length = 15 := rfl
    have c6 : ∀ hh, (m.cells xe xd)[14]'hh = .bool m.la := fun _ => rfl
    have qf := spec68 g m.la
    obtain ⟨g1, y1, a1, f1⟩ := en_flag m.la f hl
    refine ⟨g1, y1, envE p (ofM m.k) y1, runM fun R RO RD RT E => ?_, EnS.of _ _ _, by rw [if_pos rfl]; unfold layF; exact f1⟩
    clear f f1
    generalize m.cells xe xd = cs at *
    generalize ofM m.k = o at *
    simp [M.a28, sqd, sqh, E.eqs, fldA, freshB, loadA, x1, cl, c6, qf, a1]

theorem en_base (hp : hb[p]? = some ⟨.var, m.cells xe xd⟩) (N : MsN m) (f : Fresh hb g y l) (hl : l.length ≤ 2 ^ 29) : ∃ g' y' e', runE F O (sqd 1 (sqh (sqd 9 M.a28.body))) [(1, [.sc (.ptr p 0 15)]), (4, [.sc (.str (ofM m.k))]), (5, [.sc y]), (82, [.sc (.bool (flM m.k 5))])] g = some (.normal, e', g') ∧ EnS e' p (ofM m.k) y' ∧ Fresh hb g' y' (l ++ optF m 5) := by
  unfold optF
  cases hf : flM m.k 5
  · refine ⟨g, y, [(1, [.sc (.ptr p 0 15)]), (4, [.sc (.str (ofM m.k))]), (5, [.sc y]), (82, [.sc (.bool false)])], runM fun R RO RD RT E => ?_, ⟨rfl, rfl, rfl⟩, by simpa using f⟩
    generalize ofM m.k = o at *
    simp [M.a28, sqd, sqh, E.eqs]
  · have cl : (m.cells xe xd).length = 15 := rfl
    have c9 : ∀ hh, (m.cells xe xd)[9]'hh = .int .u64 m.bi := fun _ => rfl
    have c10 : ∀ hh, (m.cells xe xd)[10]'hh = .int .u64 m.bt := fun _ => rfl
    have c11 : ∀ hh, (m.cells xe xd)[11]'hh = .int .i64 m.bc := fun _ => rfl
    have n1 := numB_le N.bi
    have n2 := numB_le N.bt
    obtain ⟨b, hbd⟩ : ∃ b, b = UInt8.ofNat (m.bc % 256).toNat := ⟨_, rfl⟩
    have hw := byte_of m.bc
    rw [← hbd] at hw
    have x0 := f.mod.get hp fun h => h
    obtain ⟨g1, y1, e1, f1⟩ := spec65 g N.bi
    have fr1 := f.pass f1.mod
    have x1 := fr1.mod.get hp fun h => h
    obtain ⟨a2, so2⟩ := own_app fr1.own (srcOf_row f1.row) (by simp [lim]; omega)
    have fr2 := fr1.app so2
    have x2 := fr2.mod.get hp fun h => h
    generalize appV g1 y 1 (numB m.bi).length = y2 at *
    generalize appH g1 y 5 1 (numB m.bi).length (Go.Abs.bytes (numB m.bi)) = g2 at *
    obtain ⟨g3, y3, e3, f3⟩ := spec65 g2 N.bt
    have fr3 := fr2.pass f3.mod
    have x3 := fr3.mod.get hp fun h => h
    obtain ⟨a4, so4⟩ := own_app fr3.own (srcOf_row f3.row) (by simp [lim]; omega)
    have fr4 := fr3.app so4
    have x4 := fr4.mod.get hp fun h => h
    generalize appV g3 y2 1 (numB m.bt).length = y4 at *
    generalize appH g3 y2 5 1 (numB m.bt).length (Go.Abs.bytes (numB m.bt)) = g4 at *
    obtain ⟨a5, so5⟩ := own_app1 fr4.own b (by simp [lim]; omega)
    have fr5 := fr4.app so5
    have x5 := fr5.mod.get hp fun h => h
    generalize appV g4 y4 1 1 = y5 at *
    generalize appH g4 y4 5 1 1 [.int .u8 b.toNat] = g5 at *
    refine ⟨g5, y5, envE p (ofM m.k) y5, runM fun R RO RD RT E => ?_, EnS.of _ _ _, ?_⟩
    · clear f f1 fr1 fr2 f3 fr3 fr4 fr5 so2 so4 so5
      generalize m.cells xe xd = cs at *
      generalize ofM m.k = o at *
      simp [M.a28, sqd, sqh, E.eqs, fldA, freshB, loadA, x0, x1, x2, x3, x4, x5, cl, c9, c10, c11, hw, e1, a2, e3, a4, a5]
    · rw [if_pos rfl]
      unfold layF
      rw [← hbd]
      simpa using fr5

theorem en_data (hp : hb[p]? = some ⟨.var, m.cells xe xd⟩) (hd : m.D.length ≤ 2 ^ 30) (a : MsAt hb m xe xd) (f : Fresh hb g y l) (hl : l.length ≤ 2 ^ 29) : ∃ g' y' e', runE F O (sqd 1 (sqh (sqd 12 M.a28.body))) [(1, [.sc (.ptr p 0 15)]), (5, [.sc y]), (115, [.sc (.bool (flM m.k 8))])] g = some (.normal, e', g') ∧ e'.get 5 = [.sc y'] ∧ Fresh hb g' y' (l ++ optF m 8) := by
  unfold optF
  cases hf : flM m.k 8
  · refine ⟨g, y, [(1, [.sc (.ptr p 0 15)]), (5, [.sc y]), (115, [.sc (.bool false)])], runM fun R RO RD RT E => ?_, rfl, by simpa using f⟩
    simp [M.a28, sqd, sqh, E.eqs]
  · have x1 := f.mod.get hp fun h => h
    have cl : (m.cells xe xd).length = 15 := rfl
    have c6 : ∀ hh, (m.cells xe xd)[13]'hh = xd := fun _ => rfl
    have ag := a.mod f.mod
    have := ag.nd
    obtain ⟨g1, y1, e1, f1⟩ := spec67 ag.dat (by omega)
    have nl := numB_le (n := m.D.length) (by omega)
    have fr1 := f.pass f1.mod
    obtain ⟨a2, so2⟩ := own_app fr1.own (srcOf_row f1.row) (by simp [lim]; omega)
    have fr2 := fr1.app so2
    generalize appV g1 y 1 (numB m.D.length ++ m.D).length = y2 at *
    generalize appH g1 y 5 1 (numB m.D.length ++ m.D).length (Go.Abs.bytes (numB m.D.length ++ m.D)) = g2 at *
    refine ⟨g2, y2, [(5, [.sc y2])], runM fun R RO RD RT E => ?_, rfl, by rw [if_pos rfl]; unfold layF; exact fr2⟩
    clear f f1 fr1 fr2 so2 a ag
    generalize m.cells xe xd = cs at *
    simp [M.a28, sqd, sqh, E.eqs, fldA, freshB, loadA, x1, cl, c6, e1, a2]

theorem en_has8 {e : Env} (s : EnS e p (ofM m.k) y) : runE F O (sqh (sqh (sqd 7 M.a28.body))) e g = some (.normal, [(1, [.sc (.ptr p 0 15)]), (4, [.sc (.str (ofM m.k))]), (5, [.sc y]), (45, [.sc (.bool (flM m.k 9))])], g) := by
  have q := spec56 g (w := m_entries) (len_o m.k)
  rw [hasM_entries] at q
  obtain ⟨s1, s4, s5⟩ := s
  refine runM fun R RO RD RT E => ?_
  generalize ofM m.k = o at *
  simp [M.a28, sqd, sqh, E.eqs, s1, s4, s5, q]
theorem en_has10 {e : Env} (s : EnS e p (ofM m.k) y) : runE F O (sqh (sqh (sqd 8 M.a28.body))) e g = some (.normal, [(1, [.sc (.ptr p 0 15)]), (4, [.sc (.str (ofM m.k))]), (5, [.sc y]), (74, [.sc (.bool (flM m.k 4))])], g) := by
  have q := spec56 g (w := m_refused) (len_o m.k)
  rw [hasM_refused] at q
  obtain ⟨s1, s4, s5⟩ := s
  refine runM fun R RO RD RT E => ?_
  generalize ofM m.k = o at *
  simp [M.a28, sqd, sqh, E.eqs, s1, s4, s5, q]
theorem en_has12 {e : Env} (s : EnS e p (ofM m.k) y) : runE F O (sqh (sqh (sqd 9 M.a28.body))) e g = some (.normal, [(1, [.sc (.ptr p 0 15)]), (4, [.sc (.str (ofM m.k))]), (5, [.sc y]), (82, [.sc (.bool (flM m.k 5))])], g) := by
  have q := spec56 g (w := m_base) (len_o m.k)
  rw [hasM_base] at q
  obtain ⟨s1, s4, s5⟩ := s
  refine runM fun R RO RD RT E => ?_
  generalize ofM m.k = o at *
  simp [M.a28, sqd, sqh, E.eqs, s1, s4, s5, q]
theorem en_has15 {e : Env} (s : EnS e p (ofM m.k) y) : runE F O (sqh (sqh (sqd 11 M.a28.body))) e g = some (.normal, [(1, [.sc (.ptr p 0 15)]), (4, [.sc (.str (ofM m.k))]), (5, [.sc y]), (107, [.sc (.bool (flM m.k 7))])], g) := by
  have q := spec56 g (w := m_last) (len_o m.k)
  rw [hasM_last] at q
  obtain ⟨s1, s4, s5⟩ := s
  refine runM fun R RO RD RT E => ?_
  generalize ofM m.k = o at *
  simp [M.a28, sqd, sqh, E.eqs, s1, s4, s5, q]
theorem en_has17 {e : Env} (s : EnS e p (ofM m.k) y) : runE F O (sqh (sqh (sqd 12 M.a28.body))) e g = some (.normal, [(1, [.sc (.ptr p 0 15)]), (5, [.sc y]), (115, [.sc (.bool (flM m.k 8))])], g) := by
  have q := spec56 g (w := m_data) (len_o m.k)
  rw [hasM_data] at q
  obtain ⟨s1, s4, s5⟩ := s
  refine runM fun R RO RD RT E => ?_
  generalize ofM m.k = o at *
  simp [M.a28, sqd, sqh, E.eqs, s1, s4, s5, q]

theorem fl9 {k : Int} (h : flM k 9 = true) : flM k 4 = false ∧ flM k 5 = false ∧ flM k 6 = false ∧ flM k 7 = false ∧ flM k 8 = false := by
  rcases kindsM k with rfl | rfl | rfl | rfl | rfl | rfl | hk
  case inr.inr.inr.inr.inr.inr => exact absurd h (by unfold flM; rw [maskM_none hk]; decide)
  all_goals first | exact absurd h (by decide) | decide

def headB (m : Ms) : List UInt8 := UInt8.ofNat (m.k % 256).toNat :: UInt8.ofNat (m.f % 256).toNat :: UInt8.ofNat (m.t % 256).toNat :: numB m.term
theorem refB_same (hk : maskM m.k ≠ 0) : headB m ++ optF m 1 ++ optF m 2 ++ optF m 3 ++ optF m 9 ++ optF m 4 ++ optF m 5 ++ optF m 6 ++ optF m 7 ++ optF m 8 = bodyM m := by
  have h0 := flM0 hk
  have e : bodyM m = headB m ++ optF m 1 ++ optF m 2 ++ optF m 3 ++ optF m 4 ++ optF m 5 ++ optF m 6 ++ optF m 7 ++ optF m 8 ++ optF m 9 := by
    unfold bodyM headB
    have : layFromM m 10 0 = optF m 0 ++ (optF m 1 ++ (optF m 2 ++ (optF m 3 ++ (optF m 4 ++ (optF m 5 ++ (optF m 6 ++ (optF m 7 ++ (optF m 8 ++ (optF m 9 ++ []))))))))) := rfl
    rw [this]
    have : optF m 0 = numB m.term := by unfold optF; rw [h0]; rfl
    rw [this]
    simp
  rw [e]
  cases h9 : flM m.k 9
  · have : optF m 9 = [] := by unfold optF; rw [h9]; rfl
    rw [this]
    simp
  · obtain ⟨h4, h5, h6, h7, h8⟩ := fl9 h9
    have e4 : optF m 4 = [] := by unfold optF; rw [h4]; rfl
    have e5 : optF m 5 = [] := by unfold optF; rw [h5]; rfl
    have e6 : optF m 6 = [] := by unfold optF; rw [h6]; rfl
    have e7 : optF m 7 = [] := by unfold optF; rw [h7]; rfl
    have e8 : optF m 8 = [] := by unfold optF; rw [h8]; rfl
    rw [e4, e5, e6, e7, e8]
    simp
theorem optF_le (ok : LayOk m) (N : MsN m) (trm : ∀ z ∈ m.es, z.1.term < 18446744073709551616 ∧ z.1.index < 18446744073709551616) (j : Nat) : (optF m j).length ≤ 700 := by
  have := layF_le ok N trm j
  unfold optF
  split <;> simp
  omega
theorem ask1_mask (h : rightM m = true) : maskM m.k ≠ 0 := by
  intro h0
  unfold rightM headM at h
  simp [h0] at h

set_option maxHeartbeats 1000000 in
theorem spec28 {h : Heap} (a : MsAt h m xe xd) (N : MsN m) :
    ∃ h' y, call 28 [[.agg (m.cells xe xd)]] h = some ([.sc y, .sc (.int .i64 (errM m))], h') ∧ Fresh h h' y (encM m) := by
  obtain ⟨hb, hhb⟩ : ∃ hb : Heap, hb = h ++ [⟨.var, m.cells xe xd⟩] := ⟨_, rfl⟩
  have bb : hb[h.length]? = some ⟨.var, m.cells xe xd⟩ := by rw [hhb]; simp
  have mb : Mod (fun _ => False) h hb := by rw [hhb]; exact Mod.app _ _ _
  have ab := a.mod mb
  have qr := spec25 ab
  have hlen : (m.cells xe xd).length = 15 := rfl
  have ht : (m.cells xe xd).take 15 = m.cells xe xd := rfl
  have c0 : ∀ hh, (m.cells xe xd)[0]'hh = .int .i64 m.k := fun _ => rfl
  unfold encM errM
  cases hc : rightM m
  · rw [hc] at qr
    have tr : trim h hb [.sc .nils, .sc (.int .i64 1)] = h := by rw [hhb]; exact trim_pure rfl
    refine ⟨_, .nils, callX (hh := h) rfl (by rfl : F 28 = some M.a28) (fun R RO RD RT E => ?_), Fresh.nils (Mod.refl _ _)⟩
    clear a ab
    generalize m.cells xe xd = cs at *
    simp [M.a28, E.eqs, ← hhb, bb, fldA, freshB, loadA, hlen, ht, qr, tr]
  · rw [hc] at qr
    have ok := right_ok hc
    have ol := optF_le ok N a.es.trm
    have nt := numB_le N.term
    have hhead : (headB m).length ≤ 20 := by simp [headB]; omega
    obtain ⟨g0, y0, r4, f0⟩ := en_head bb N
    have f0 : Fresh hb g0 y0 (headB m) := f0
    have hne : headB m ≠ [] := by simp [headB]
    have ne : ∀ {a b : List UInt8}, a ≠ [] → a ++ b ≠ [] := fun h => by simp [h]
    obtain ⟨g1, y1, r5, f1⟩ := en_put5 (EnS.of _ _ _) bb N f0 hne (by omega)
    have o1 := ol 1
    obtain ⟨g2, y2, r6, f2⟩ := en_put6 (EnS.of _ _ _) bb N f1 (ne hne) (by simp; omega)
    have o2 := ol 2
    obtain ⟨g3, y3, r7, f3⟩ := en_put7 (EnS.of _ _ _) bb N f2 (ne (ne hne)) (by simp; omega)
    have o3 := ol 3
    have r8 := en_has8 (m := m) (g := g3) (EnS.of h.length (ofM m.k) y3)
    obtain ⟨g4, y4, e4, r9, s4, f4⟩ := en_ent bb ab ok f3 (by simp; omega)
    have o9 := ol 9
    have r10 := en_has10 (g := g4) s4
    obtain ⟨g5, y5, e5, r11, s5, f5⟩ := en_flag11 bb f4 (by simp; omega)
    have o4 := ol 4
    have r12 := en_has12 (g := g5) s5
    obtain ⟨g6, y6, e6, r13, s6, f6⟩ := en_base bb N f5 (by simp; omega)
    have o5 := ol 5
    obtain ⟨g7, y7, r14, f7⟩ := en_put14 s6 bb ok f6 (ne (ne (ne (ne (ne (ne hne)))))) (by simp; omega)
    have o6 := ol 6
    have r15 := en_has15 (m := m) (g := g7) (EnS.of h.length (ofM m.k) y7)
    obtain ⟨g8, y8, e8, r16, s8, f8⟩ := en_flag16 bb f7 (by simp; omega)
    have o7 := ol 7
    have r17 := en_has17 (g := g8) s8
    obtain ⟨g9, y9, e9, r18, s9, f9⟩ := en_data bb (by have := ok.d; omega) ab f8 (by simp; omega)
    have o8 := ol 8
    rw [refB_same (ask1_mask hc)] at f9
    have hbl : (bodyM m).length ≤ 2 ^ 20 := by
      rw [← refB_same (ask1_mask hc)]
      simp
      omega
    obtain ⟨g10, y10, q10, f10⟩ := spec48 f9.row (by omega)
    have qo := spec54 hb m.k
    have fr : Fresh h g10 y10 (sealB (bodyM m)) := f10.after (mb.trans f9.mod fun _ _ h => h)
    refine ⟨_, y10, callX (hh := trim h g10 [.sc y10, .sc (.int .i64 0)]) rfl (by rfl : F 28 = some M.a28) (fun R RO RD RT E => ?_), fr.trim2 _⟩
    have r4 := E.run r4
    have r5 := E.run r5
    have r6 := E.run r6
    have r7 := E.run r7
    have r8 := E.run r8
    have r9 := E.run r9
    have r10 := E.run r10
    have r11 := E.run r11
    have r12 := E.run r12
    have r13 := E.run r13
    have r14 := E.run r14
    have r15 := E.run r15
    have r16 := E.run r16
    have r17 := E.run r17
    have r18 := E.run r18
    clear f0 f1 f2 f3 f4 f5 f6 f7 f8 f9 f10 fr a ab
    have top : ∀ r, R (sqd 13 M.a28.body) e9 g9 = r → R M.a28.body (envFrom 0 [[.agg (m.cells xe xd)]]) h = r := fun r hr => by
      refine seqM E (e1 := [(1, [.sc (.ptr h.length 0 15)])]) (h1 := hb) ?_ (seqM E (e1 := [(1, [.sc (.ptr h.length 0 15)]), (11, [.sc (.bool false)])]) (h1 := hb) ?_ (seqM E (e1 := [(1, [.sc (.ptr h.length 0 15)]), (4, [.sc (.str (ofM m.k))])]) (h1 := hb) ?_
        (seqM E r4 (seqM E r5 (seqM E r6 (seqM E r7 (seqM E (seqM E r8 r9) (seqM E (seqM E r10 r11) (seqM E (seqM E r12 r13) (seqM E r14 (seqM E (seqM E r15 r16) (seqM E (seqM E r17 r18) hr))))))))))))
      · generalize m.cells xe xd = cs at *
        simp [E.eqs, ← hhb, hlen]
      · generalize m.cells xe xd = cs at *
        simp [E.eqs, loadA, bb, hlen, ht, qr]
      · generalize m.cells xe xd = cs at *
        simp [E.eqs, fldA, freshB, loadA, bb, hlen, c0, qo]
    rw [top _ rfl]
    simp [M.a28, sqd, E.eqs, s9, q10]
end
end Go.Proofs.Ytoghoddofokekaa
end

