/- Chapter 6: entries, copied. -/
import Derived.Test.YtoghoddofokekaaD4
set_option linter.unusedVariables false
set_option linter.unusedSimpArgs false
set_option maxRecDepth 100000
namespace Go.Proofs.Ytoghoddofokekaa
open Go.Abs

theorem entC_snoc (l : List (En × SV)) (z : En × SV) : entC (l ++ [z]) = entC l ++ z.1.c z.2 := by simp [entC]

/-- copies so far: a row of one's own behind h, each with its own data behind h -/
structure CpAt (h H : Heap) (x : SV) (ws : List (En × SV)) : Prop where
  own : Own H x 57 5 ws.length (entC ws)
  mod : Mod (fun _ => False) h H
  new : ∀ j, blk x j → h.length ≤ j
  dat : ∀ w ∈ ws, Row H w.2 1 w.1.T.length (Go.Abs.bytes w.1.T)
  sep : ∀ w ∈ ws, ∀ j, blk w.2 j → h.length ≤ j ∧ ¬ blk x j

/-- one more copy behind -/
theorem CpAt.push {h H H' : Heap} {x : SV} {ws : List (En × SV)} (c : CpAt h H x ws) {z : En × SV} (m : Mod (fun _ => False) H H') (hz : Row H' z.2 1 z.1.T.length (Go.Abs.bytes z.1.T)) (hn : ∀ j, blk z.2 j → H.length ≤ j) (hl : ws.length < 2000000) :
    appA H' 57 5 56 (.sc x) (.imm 1 (z.1.c z.2)) = some ([.sc (appV H' x 5 1)], appH H' x 57 5 1 (z.1.c z.2)) ∧ CpAt h (appH H' x 57 5 1 (z.1.c z.2)) (appV H' x 5 1) (ws ++ [z]) := by
  have own := c.own.mod m fun _ _ h => h
  have hlt := c.own.lt
  have am := app_mod (h := H') (x := x) (sz := 5) (e := 57) (m := 1) (ys := z.1.c z.2)
  refine ⟨appA_own own rfl (by simp [lim]; omega), ?_, ?_, ?_, ?_, ?_⟩
  · have := app_own (e := 57) own (m := 1) (ys := z.1.c z.2) rfl
    rw [entC_snoc, List.length_append]
    exact this
  · exact (c.mod.trans m fun _ _ h => h).trans am fun j hj hb => by have := c.new j hb; omega
  · intro j hj
    rcases blk_app j hj with h1 | h1
    · exact c.new j h1
    · have := Nat.le_trans c.mod.1 m.1; omega
  · intro w hw
    rcases List.mem_append.1 hw with h1 | h1
    · exact ((c.dat w h1).mod m fun _ _ h => h).mod am fun j hj hb => (c.sep w h1 j hj).2 hb
    · simp at h1
      subst h1
      exact hz.mod am fun j hj hb => by have := hn j hj; have := hlt j hb; omega
  · intro w hw j hj
    rcases List.mem_append.1 hw with h1 | h1
    · refine ⟨(c.sep w h1 j hj).1, fun hb => ?_⟩
      rcases blk_app j hb with h2 | h2
      · exact (c.sep w h1 j hj).2 h2
      · have := (c.dat w h1).lt j hj; have := m.1; omega
    · simp at h1
      subst h1
      have h3 := hn j hj
      have h4 := hz.lt j hj
      refine ⟨by have := c.mod.1; omega, fun hb => ?_⟩
      rcases blk_app j hb with h2 | h2
      · have := hlt j h2; omega
      · omega

section
variable {h : Heap} {y : SV} {es : List (En × SV)}
set_option maxHeartbeats 1000000 in
theorem cp_loop (hE : EsAt h y es) (hn : es.length ≤ 1048576) (hT : ∀ z ∈ es, z.1.T.length ≤ 2 ^ 40) : ∀ (m i : Nat) (H : Heap) (x : SV) (ws : List (En × SV)) (e : Env), i + m = es.length → CpAt h H x ws → ws.map (·.1) = (es.take i).map (·.1) →
    e.get 0 = [.sc y] → e.get 3 = [.sc x] → e.get 4 = [.sc (.int .i64 i)] →
    ∃ (H' : Heap) (x' : SV) (ws' : List (En × SV)) (e' : Env), loopE F O (.loop [0, 3, 4] M.b39_0) e H = some (.exit 0, e', H') ∧ e'.get 3 = [.sc x'] ∧ CpAt h H' x' ws' ∧ ws'.map (·.1) = es.map (·.1)
  | 0, i, H, x, ws, e, hi, c, hw, e0, e3, e4 => by
    have ln := lenA_row (hE.mod c.mod).row
    have c2 : ¬ i < es.length := by omega
    refine ⟨H, x, ws, [(0, [.sc y]), (3, [.sc x]), (4, [.sc (.int .i64 i)]), (9, [.sc (.bool false)])], exitM fun R RO RD RT E => ?_, rfl, c, by rw [hw, List.take_of_length_le (by omega)]⟩
    simp [M.b39_0, E.eqs, e0, e3, e4, ln, c2]
  | m + 1, i, H, x, ws, e, hi, c, hw, e0, e3, e4 => by
    have hlt : i < es.length := by omega
    obtain ⟨z, hz⟩ : ∃ z, es[i]? = some z := ⟨_, List.getElem?_eq_getElem hlt⟩
    have hzm := List.mem_of_getElem? hz
    have hEH := hE.mod c.mod
    have hEt : ∀ t : Heap, EsAt (H ++ t) y es := fun t => hEH.mod (Mod.app (fun _ => False) H t)
    have ln := lenA_row hEH.row
    have ld := loadA_ent hEH.row hz
    have ix := ixsA_row hEH.row hlt
    have ixt : ∀ t : Heap, ixsA (H ++ t) 5 [.sc y] (some i) = some ([.sc (elemP y 5 i)], H ++ t) := fun t => ixsA_row (hEt t).row hlt
    have flt : ∀ t : Heap, fldA (H ++ t) 3 [.sc (elemP y 5 i)] = some ([.sc (fldP (elemP y 5 i) 3)], H ++ t) := fun t => fldA_row (hEt t).row hlt 3
    have lft : ∀ t : Heap, loadA (H ++ t) false 1 [.sc (fldP (elemP y 5 i) 3)] = some ([.sc z.2], H ++ t) := fun t => by
      have hg := entC_get hz
      have : (entC es)[i * 5 + 3]? = some z.2 := by
        have := congrArg (fun l => l[3]?) hg
        simpa [En.c, eC, List.getElem?_take, List.getElem?_drop] using this
      exact loadA_fld (hEt t).row hlt (by omega) this
    obtain ⟨ha, hha⟩ : ∃ ha : Heap, ha = H ++ [⟨.var, z.1.c z.2⟩] := ⟨_, rfl⟩
    have ma : Mod (fun _ => False) H ha := by rw [hha]; exact Mod.app _ _ _
    have la : ha.length = H.length + 1 := by rw [hha]; simp
    have a1 := copy_app ((hEH.dat z hzm).mod ma fun _ _ h => h) (by have := hT z hzm; omega)
    obtain ⟨x', hx'⟩ : ∃ x' : SV, x' = .sl (H.length + 1) 0 z.1.T.length z.1.T.length := ⟨_, rfl⟩
    rw [la, ← hx'] at a1
    have m2 : Mod (fun _ => False) H (H ++ [⟨.var, z.1.c x'⟩, ⟨.row 5 1, Go.Abs.bytes z.1.T⟩]) := Mod.app _ _ _
    have hz2 : Row (H ++ [⟨.var, z.1.c x'⟩, ⟨.row 5 1, Go.Abs.bytes z.1.T⟩]) x' 1 z.1.T.length (Go.Abs.bytes z.1.T) := Own.row (e := 5) (.inr ⟨H.length + 1, by rw [hx']; simp, by simp, by simp [bytes_length]⟩)
    have hn2 : ∀ j, blk x' j → H.length ≤ j := fun j hj => by
      rw [hx'] at hj
      have : j = H.length + 1 := by simpa [blk, eq_comm] using hj
      omega
    have hwl : ws.length = i := by
      have := congrArg List.length hw
      simp at this
      omega
    obtain ⟨p1, c'⟩ := c.push (z := (z.1, x')) m2 hz2 hn2 (by omega)
    have hw' : (ws ++ [(z.1, x')]).map (·.1) = (es.take (i + 1)).map (·.1) := by
      rw [List.take_add_one, hz, List.map_append, hw, List.map_append]
      rfl
    simp only at p1 c'
    obtain ⟨H2, hH2⟩ : ∃ H2 : Heap, H2 = H ++ [⟨.var, z.1.c x'⟩, ⟨.row 5 1, Go.Abs.bytes z.1.T⟩] := ⟨_, rfl⟩
    rw [← hH2] at p1 c' m2
    generalize appV H2 x 5 1 = x3 at *
    generalize appH H2 x 57 5 1 (z.1.c x') = H3 at *
    obtain ⟨H', xf, ws', e', lo, g3, cf, wf⟩ := cp_loop hE hn hT m (i + 1) H3 x3 (ws ++ [(z.1, x')]) [(0, [.sc y]), (3, [.sc x3]), (4, [.sc (.int .i64 ((i + 1 : Nat) : Int))])] (by omega) c' hw' rfl rfl rfl
    refine ⟨H', xf, ws', e', stepM (fun R RO RD RT E => ?_) lo, g3, cf, wf⟩
    clear lo cf wf c c' hz2
    have w1 : IntKind.i64.wrap ((i : Int) + 1) = (i : Int) + 1 := wi64 (by omega) (by omega)
    have ixa : ∀ t : Heap, ixsA (ha ++ t) 5 [.sc y] (some i) = some ([.sc (elemP y 5 i)], ha ++ t) := fun t => by rw [hha, List.append_assoc]; exact ixt _
    have fla : ∀ t : Heap, fldA (ha ++ t) 3 [.sc (elemP y 5 i)] = some ([.sc (fldP (elemP y 5 i) 3)], ha ++ t) := fun t => by rw [hha, List.append_assoc]; exact flt _
    have lfa : ∀ t : Heap, loadA (ha ++ t) false 1 [.sc (fldP (elemP y 5 i) 3)] = some ([.sc z.2], ha ++ t) := fun t => by rw [hha, List.append_assoc]; exact lft _
    have bC : ∀ t : Heap, (ha ++ t)[H.length]? = some ⟨.var, z.1.c z.2⟩ := fun t => by rw [hha, List.append_assoc]; simp
    have d0 : setCells [.int .i64 0, .int .u64 0, .int .u64 0, .nils, .int .i64 0] 0 (z.1.c z.2) = z.1.c z.2 := rfl
    have d1 : (z.1.c z.2).length = 5 := rfl
    have d2 : (z.1.c z.2).set 3 x' = z.1.c x' := rfl
    have st : ∀ t : Heap, (ha ++ t).set H.length ⟨.var, z.1.c x'⟩ = H ++ (⟨.var, z.1.c x'⟩ :: t) := fun t => by rw [hha, List.append_assoc]; simp
    have frC : ∀ t : Heap, freshB (ha ++ t) H.length 5 = true := fun t => freshB_of (bC t) rfl
    have f3 : ∀ t : Heap, fldA (ha ++ t) 3 [.sc (.ptr H.length 0 5)] = some ([.sc (.ptr H.length 3 5)], ha ++ t) := fun t => by simp [fldA, frC]
    have b2 : H2[H.length]? = some ⟨.var, z.1.c x'⟩ := by rw [hH2]; simp
    have l2 : loadA H2 true 5 [.sc (.ptr H.length 0 5)] = some ([.agg (z.1.c x')], H2) := by simp [loadA, b2, show (z.1.c x').length = 5 from rfl, show (z.1.c x').take 5 = z.1.c x' from rfl]
    have d3 : (z.1.c x').length = 5 := rfl
    have d5 : setCells [.int .i64 0, .int .u64 0, .int .u64 0, .nils, .int .i64 0] 0 (z.1.c x') = z.1.c x' := rfl
    generalize z.1.c z.2 = zc at *
    generalize z.1.c x' = zx at *
    simp [M.b39_0, E.eqs, e0, e3, e4, ln, hlt, ix, ld, d0, d1, d2, ← hha, la, ixa, fla, lfa, a1, f3, storeA, bC, st, ← hH2, l2, d3, d5, p1, w1]

theorem CpAt.trim {H : Heap} {x : SV} {ws : List (En × SV)} (c : CpAt h H x ws) : CpAt h (Go.Abs.trim h H [.sc x]) x ws := by
  unfold Go.Abs.trim
  split
  · rename_i hc
    simp only [Bool.and_eq_true] at hc
    rcases c.own with ⟨rfl, h1, h2⟩ | ⟨b, rfl, _⟩
    · have : ws = [] := List.eq_nil_of_length_eq_zero h1
      subst this
      have hle := c.mod.1
      exact ⟨.inl ⟨rfl, rfl, rfl⟩, ⟨by simp; omega, fun j hj _ => by rw [List.getElem?_take, if_pos hj]; exact c.mod.2 j hj fun h => h⟩, fun j hj => hj.elim, fun w hw => by simp at hw, fun w hw => by simp at hw⟩
    · simp [pureT, pureV, pureS] at hc
  · exact c

theorem spec39 (hE : EsAt h y es) (hn : es.length ≤ 1048576) (hT : ∀ z ∈ es, z.1.T.length ≤ 2 ^ 40) : ∃ h' x ws, call 39 [[.sc y]] h = some ([.sc x], h') ∧ CpAt h h' x ws ∧ ws.map (·.1) = es.map (·.1) := by
  obtain ⟨H', x', ws', e', lo, g3, c, hw⟩ := cp_loop hE hn hT es.length 0 h .nils [] [(0, [.sc y]), (3, [.sc .nils]), (4, [.sc (.int .i64 0)])] (by omega) ⟨.inl ⟨rfl, rfl, rfl⟩, Mod.refl _ _, fun j hj => hj.elim, fun w hw => by simp at hw, fun w hw => by simp at hw⟩ (by simp) rfl rfl rfl
  have lo := loop_run lo
  refine ⟨_, x', ws', callX (hh := Go.Abs.trim h H' [.sc x']) rfl (by rfl : F 39 = some M.a39) (fun R RO RD RT E => ?_), c.trim, hw⟩
  have lo := E.run lo
  simp [M.a39, E.eqs, lo, g3]
end
end Go.Proofs.Ytoghoddofokekaa
