/- RpcOwn: the law's call says true, of any message. -/
import Derived.Test.YtoghoddofokekaaJ5
import Derived.Test.YtoghoddofokekaaZ1
set_option linter.unusedVariables false
set_option linter.unusedSimpArgs false
set_option maxRecDepth 100000
namespace Go.Proofs.Ytoghoddofokekaa.lawRpcOwn
open Go.Abs

/-- a row of n bytes of one's own -/
def OwnL (H : Heap) (z : SV) (n : Nat) : Prop := ∃ T : List UInt8, T.length = n ∧ Own H z 5 1 n (Go.Abs.bytes T)
theorem OwnL.put {H : Heap} {x z : SV} {n n' k : Nat} (hx : OwnL H x n) (hz : OwnL H z n') (hk : k < n) (b : UInt8) : OwnL (storeH H x k (.int .u8 b.toNat)) z n' := by
  obtain ⟨T, rfl, ox⟩ := hx
  obtain ⟨T', rfl, oz⟩ := hz
  have st := storeH_own ox (i := k) (by omega) (.int .u8 (b.toNat : Int))
  rw [← bytes_set] at st
  have mo := storeH_mod (h := H) (x := x) k (.int .u8 (b.toNat : Int))
  rcases ox with ⟨rfl, h1, _⟩ | ⟨bx, rfl, hB, hl⟩
  · omega
  · rcases oz with ⟨rfl, h1, h2⟩ | ⟨bz, rfl, hB', hl'⟩
    · exact ⟨T', rfl, .inl ⟨rfl, h1, h2⟩⟩
    · by_cases e : bx = bz
      · subst e
        rw [hB] at hB'
        injection hB' with hB'
        injection hB' with _ hc
        have hlen : T.length = T'.length := by have := congrArg List.length hc; simpa [bytes_length] using this
        exact ⟨T.set k b, by simp [hlen], by rw [← hlen]; exact st⟩
      · exact ⟨T', rfl, .inr ⟨bz, rfl, by rw [mo.2 bz (lt_of_get hB') fun h => e (h.symm)]; exact hB', hl'⟩⟩

/-- what the writing leaves alone -/
structure OwI (G H : Heap) (L U : Nat) (xe xd yb : SV) (es : List (En × SV)) (nd nb : Nat) : Prop where
  mod : Mod (fun j => (L ≤ j ∧ j < U) ∧ ¬ blk xe j) G H
  dat : ∀ z ∈ es, OwnL H z.2 z.1.T.length ∧ ∀ j, blk z.2 j → (L ≤ j ∧ j < U) ∧ ¬ blk xe j
  d : OwnL H xd nd ∧ ∀ j, blk xd j → (L ≤ j ∧ j < U) ∧ ¬ blk xe j
  y : OwnL H yb nb ∧ ∀ j, blk yb j → (L ≤ j ∧ j < U) ∧ ¬ blk xe j
section
variable {G H : Heap} {L U : Nat} {xe xd yb : SV} {es : List (En × SV)} {nd nb : Nat} {p : Nat} {m : Ms} {v1 v3 v7 : TV}
theorem OwI.put (i : OwI G H L U xe xd yb es nd nb) {x : SV} {n k : Nat} (hx : OwnL H x n) (hb : ∀ j, blk x j → (L ≤ j ∧ j < U) ∧ ¬ blk xe j) (hk : k < n) (b : UInt8) : storeA H 1 [.sc (elemP x 1 k)] [.sc (.int .u8 b.toNat)] = some ([], storeH H x k (.int .u8 b.toNat)) ∧ OwI G (storeH H x k (.int .u8 b.toNat)) L U xe xd yb es nd nb := by
  have mo := storeH_mod (h := H) (x := x) k (.int .u8 (b.toNat : Int))
  refine ⟨?_, i.mod.trans mo fun j _ hj => hb j hj, fun z hz => ⟨hx.put (i.dat z hz).1 hk b, (i.dat z hz).2⟩, ⟨hx.put i.d.1 hk b, i.d.2⟩, ⟨hx.put i.y.1 hk b, i.y.2⟩⟩
  obtain ⟨T, rfl, ox⟩ := hx
  have := storeA_elem ox hk (by omega) (.int .u8 (b.toNat : Int))
  rwa [Nat.mul_one] at this

set_option maxHeartbeats 1000000 in
theorem inner_loop (hp : G[p]? = some ⟨.var, m.cells xe xd⟩) (hpU : ¬ ((L ≤ p ∧ p < U) ∧ ¬ blk xe p)) (rx : Row G xe 5 es.length (entC es)) {i : Nat} {z : En × SV} (hz : es[i]? = some z) (hT : z.1.T.length ≤ 140737488353280) : ∀ (n k : Nat) (H : Heap) (e : Env), k + n = z.1.T.length → OwI G H L U xe xd yb es nd nb →
    e.get 1 = v1 → e.get 3 = v3 → e.get 5 = [.sc (.ptr p 0 15)] → e.get 7 = v7 → e.get 9 = [.sc (.int .i64 i)] → e.get 10 = [.sc (.int .i64 k)] →
    ∃ (H' : Heap) (e' : Env), loopE F O (.loop [1, 3, 5, 7, 9, 10] M.b18_3) e H = some (.exit 2, e', H') ∧ OwI G H' L U xe xd yb es nd nb ∧ e'.get 1 = v1 ∧ e'.get 3 = v3 ∧ e'.get 5 = [.sc (.ptr p 0 15)] ∧ e'.get 7 = v7 ∧ e'.get 9 = [.sc (.int .i64 i)]
  | n, k, H, e, hk, I, e1, e3, e5, e7, e9, e10 => by
    have bp := I.mod.get hp hpU
    have cl := cellsL m xe xd
    have fl := fld_cell bp cl 0 6
    have l6 := load_cell bp cl (k := 6) (v := xe) rfl
    have rH := rx.mod I.mod fun j hj h => h.2 hj
    have hi : i < es.length := (List.getElem?_eq_some_iff.1 hz).1
    have ix := ixsA_row rH hi
    have f3 := fldA_row rH hi 3
    have l3 : loadA H false 1 [.sc (fldP (elemP xe 5 i) 3)] = some ([.sc z.2], H) := by
      have hg := entC_get hz
      have : (entC es)[i * 5 + 3]? = some z.2 := by
        have := congrArg (fun l => l[3]?) hg
        simpa [En.c, eC, List.getElem?_take, List.getElem?_drop] using this
      exact loadA_fld rH hi (by omega) this
    have hzm := List.mem_of_getElem? hz
    obtain ⟨oz, bz⟩ := I.dat z hzm
    have ln : lenA H [.sc z.2] = some ([.sc (.int .i64 z.1.T.length)], H) := by
      obtain ⟨T, hT', ot⟩ := oz
      exact lenA_row ot.row
    generalize hfp : fldP (elemP xe 5 i) 3 = fp at *
    match n, hk with
    | 0, hk =>
      have c1 : ¬ k < z.1.T.length := by omega
      refine ⟨H, [(1, v1), (3, v3), (5, [.sc (.ptr p 0 15)]), (7, v7), (9, [.sc (.int .i64 i)]), (10, [.sc (.int .i64 k)]), (46, [.sc (.bool false)])], exitM fun R RO RD RT E => ?_, I, rfl, rfl, rfl, rfl, rfl⟩
      clear I rx rH bp oz bz
      generalize z.1.T.length = tl at *
      simp [M.b18_3, E.eqs, e1, e3, e5, e7, e9, e10, fl, l6, ix, f3, l3, ln, c1]
    | n + 1, hk =>
      have c1 : k < z.1.T.length := by omega
      have ix2 : ixsA H 1 [.sc z.2] (some k) = some ([.sc (elemP z.2 1 k)], H) := by
        obtain ⟨T, hT', ot⟩ := oz
        exact ixsA_row ot.row c1
      obtain ⟨st, I2⟩ := I.put oz bz c1 238
      have st : storeA H 1 [.sc (elemP z.2 1 k)] [.sc (.int .u8 238)] = some ([], storeH H z.2 k (.int .u8 238)) := st
      have I2 : OwI G (storeH H z.2 k (.int .u8 238)) L U xe xd yb es nd nb := I2
      obtain ⟨H', e', lo, rest⟩ := inner_loop hp hpU rx hz hT n (k + 1) _ [(1, v1), (3, v3), (5, [.sc (.ptr p 0 15)]), (7, v7), (9, [.sc (.int .i64 i)]), (10, [.sc (.int .i64 ((k + 1 : Nat) : Int))])] (by omega) I2 rfl rfl rfl rfl rfl rfl
      have wr : IntKind.i64.wrap ((k : Int) + 1) = (k : Int) + 1 := wi64 (by omega) (by omega)
      refine ⟨H', e', stepM (fun R RO RD RT E => ?_) lo, rest⟩
      clear lo rest I I2 rx rH bp oz bz
      generalize storeH H z.2 k (.int .u8 238) = H2 at *
      generalize z.1.T.length = tl at *
      simp [M.b18_3, E.eqs, e1, e3, e5, e7, e9, e10, fl, l6, ix, f3, l3, ln, c1, ix2, st, wr]

set_option maxHeartbeats 1000000 in
theorem outer_loop (hp : G[p]? = some ⟨.var, m.cells xe xd⟩) (hpU : ¬ ((L ≤ p ∧ p < U) ∧ ¬ blk xe p)) (rx : Row G xe 5 es.length (entC es)) (hT : ∀ z ∈ es, z.1.T.length ≤ 140737488353280) (hn : es.length ≤ 2513169434844) : ∀ (n i : Nat) (H : Heap) (e : Env), i + n = es.length → OwI G H L U xe xd yb es nd nb →
    e.get 1 = v1 → e.get 3 = v3 → e.get 5 = [.sc (.ptr p 0 15)] → e.get 7 = v7 → e.get 9 = [.sc (.int .i64 i)] →
    ∃ (H' : Heap) (e' : Env), loopE F O (.loop [1, 3, 5, 7, 9] M.b18_2) e H = some (.exit 0, e', H') ∧ OwI G H' L U xe xd yb es nd nb ∧ e'.get 1 = v1 ∧ e'.get 3 = v3 ∧ e'.get 5 = [.sc (.ptr p 0 15)] ∧ e'.get 7 = v7
  | 0, i, H, e, hi, I, e1, e3, e5, e7, e9 => by
    have bp := I.mod.get hp hpU
    have cl := cellsL m xe xd
    have fl := fld_cell bp cl 0 6
    have l6 := load_cell bp cl (k := 6) (v := xe) rfl
    have rH := rx.mod I.mod fun j hj h => h.2 hj
    have ln := lenA_row rH
    have c1 : ¬ i < es.length := by omega
    refine ⟨H, [(1, v1), (3, v3), (5, [.sc (.ptr p 0 15)]), (7, v7), (9, [.sc (.int .i64 i)]), (35, [.sc (.bool false)])], exitM fun R RO RD RT E => ?_, I, rfl, rfl, rfl, rfl⟩
    clear I rx rH bp
    simp [M.b18_2, E.eqs, e1, e3, e5, e7, e9, fl, l6, ln, c1]
  | n + 1, i, H, e, hi, I, e1, e3, e5, e7, e9 => by
    have bp := I.mod.get hp hpU
    have cl := cellsL m xe xd
    have fl := fld_cell bp cl 0 6
    have l6 := load_cell bp cl (k := 6) (v := xe) rfl
    have rH := rx.mod I.mod fun j hj h => h.2 hj
    have ln := lenA_row rH
    have c1 : i < es.length := by omega
    obtain ⟨z, hz⟩ : ∃ z, es[i]? = some z := ⟨_, List.getElem?_eq_getElem c1⟩
    obtain ⟨H1, x1, lo1, I1, g1, g3, g5, g7, g9⟩ := inner_loop (v1 := v1) (v3 := v3) (v7 := v7) hp hpU rx hz (hT z (List.mem_of_getElem? hz)) z.1.T.length 0 H [(1, v1), (3, v3), (5, [.sc (.ptr p 0 15)]), (7, v7), (9, [.sc (.int .i64 i)]), (10, [.sc (.int .i64 0)])] (by omega) I rfl rfl rfl rfl rfl rfl
    have lo1 := loop_run lo1
    obtain ⟨H', e', lo, rest⟩ := outer_loop hp hpU rx hT hn n (i + 1) H1 [(1, v1), (3, v3), (5, [.sc (.ptr p 0 15)]), (7, v7), (9, [.sc (.int .i64 ((i + 1 : Nat) : Int))])] (by omega) I1 rfl rfl rfl rfl rfl
    have wr : IntKind.i64.wrap ((i : Int) + 1) = (i : Int) + 1 := wi64 (by omega) (by omega)
    refine ⟨H', e', stepM (fun R RO RD RT E => ?_) lo, rest⟩
    have lo1 := E.run lo1
    clear lo rest I I1 rx rH bp
    simp [M.b18_2, E.eqs, e1, e3, e5, e7, e9, fl, l6, ln, c1, lo1, g1, g3, g5, g7, g9, wr]

set_option maxHeartbeats 1000000 in
theorem data_loop (hp : G[p]? = some ⟨.var, m.cells xe xd⟩) (hpU : ¬ ((L ≤ p ∧ p < U) ∧ ¬ blk xe p)) (hn : nd ≤ 140737488353280) : ∀ (n k : Nat) (H : Heap) (e : Env), k + n = nd → OwI G H L U xe xd yb es nd nb →
    e.get 1 = v1 → e.get 3 = v3 → e.get 5 = [.sc (.ptr p 0 15)] → e.get 7 = v7 → e.get 11 = [.sc (.int .i64 k)] →
    ∃ (H' : Heap) (e' : Env), loopE F O (.loop [1, 3, 5, 7, 11] M.b18_1) e H = some (.exit 4, e', H') ∧ OwI G H' L U xe xd yb es nd nb ∧ e'.get 1 = v1 ∧ e'.get 3 = v3 ∧ e'.get 7 = v7
  | n, k, H, e, hk, I, e1, e3, e5, e7, e11 => by
    have bp := I.mod.get hp hpU
    have cl := cellsL m xe xd
    have fl := fld_cell bp cl 0 13
    have l6 := load_cell bp cl (k := 13) (v := xd) rfl
    obtain ⟨oz, bz⟩ := I.d
    have ln : lenA H [.sc xd] = some ([.sc (.int .i64 nd)], H) := by
      obtain ⟨T, hT', ot⟩ := oz
      exact lenA_row ot.row
    match n, hk with
    | 0, hk =>
      have c1 : ¬ k < nd := by omega
      refine ⟨H, [(1, v1), (3, v3), (5, [.sc (.ptr p 0 15)]), (7, v7), (11, [.sc (.int .i64 k)]), (61, [.sc (.bool false)])], exitM fun R RO RD RT E => ?_, I, rfl, rfl, rfl⟩
      clear I bp oz bz
      simp [M.b18_1, E.eqs, e1, e3, e5, e7, e11, fl, l6, ln, c1]
    | n + 1, hk =>
      have c1 : k < nd := by omega
      have ix2 : ixsA H 1 [.sc xd] (some k) = some ([.sc (elemP xd 1 k)], H) := by
        obtain ⟨T, hT', ot⟩ := oz
        exact ixsA_row ot.row c1
      obtain ⟨st, I2⟩ := I.put oz bz c1 238
      have st : storeA H 1 [.sc (elemP xd 1 k)] [.sc (.int .u8 238)] = some ([], storeH H xd k (.int .u8 238)) := st
      have I2 : OwI G (storeH H xd k (.int .u8 238)) L U xe xd yb es nd nb := I2
      obtain ⟨H', e', lo, rest⟩ := data_loop hp hpU hn n (k + 1) _ [(1, v1), (3, v3), (5, [.sc (.ptr p 0 15)]), (7, v7), (11, [.sc (.int .i64 ((k + 1 : Nat) : Int))])] (by omega) I2 rfl rfl rfl rfl rfl
      have wr : IntKind.i64.wrap ((k : Int) + 1) = (k : Int) + 1 := wi64 (by omega) (by omega)
      refine ⟨H', e', stepM (fun R RO RD RT E => ?_) lo, rest⟩
      clear lo rest I I2 bp oz bz
      generalize storeH H xd k (.int .u8 238) = H2 at *
      simp [M.b18_1, E.eqs, e1, e3, e5, e7, e11, fl, l6, ln, c1, ix2, st, wr]

set_option maxHeartbeats 1000000 in
theorem bytes_loop (hn : nb ≤ 140737488353280) : ∀ (n k : Nat) (H : Heap) (e : Env), k + n = nb → OwI G H L U xe xd yb es nd nb →
    e.get 1 = v1 → e.get 3 = [.sc yb] → e.get 7 = v7 → e.get 12 = [.sc (.int .i64 k)] →
    ∃ (H' : Heap) (e' : Env), loopE F O (.loop [1, 3, 7, 12] M.b18_0) e H = some (.exit 6, e', H') ∧ OwI G H' L U xe xd yb es nd nb ∧ e'.get 1 = v1 ∧ e'.get 7 = v7
  | n, k, H, e, hk, I, e1, e3, e7, e12 => by
    obtain ⟨oz, bz⟩ := I.y
    have ln : lenA H [.sc yb] = some ([.sc (.int .i64 nb)], H) := by
      obtain ⟨T, hT', ot⟩ := oz
      exact lenA_row ot.row
    match n, hk with
    | 0, hk =>
      have c1 : ¬ k < nb := by omega
      refine ⟨H, [(1, v1), (3, [.sc yb]), (7, v7), (12, [.sc (.int .i64 k)]), (71, [.sc (.bool false)])], exitM fun R RO RD RT E => ?_, I, rfl, rfl⟩
      clear I oz bz
      simp [M.b18_0, E.eqs, e1, e3, e7, e12, ln, c1]
    | n + 1, hk =>
      have c1 : k < nb := by omega
      have ix2 : ixsA H 1 [.sc yb] (some k) = some ([.sc (elemP yb 1 k)], H) := by
        obtain ⟨T, hT', ot⟩ := oz
        exact ixsA_row ot.row c1
      obtain ⟨st, I2⟩ := I.put oz bz c1 221
      have st : storeA H 1 [.sc (elemP yb 1 k)] [.sc (.int .u8 221)] = some ([], storeH H yb k (.int .u8 221)) := st
      have I2 : OwI G (storeH H yb k (.int .u8 221)) L U xe xd yb es nd nb := I2
      obtain ⟨H', e', lo, rest⟩ := bytes_loop hn n (k + 1) _ [(1, v1), (3, [.sc yb]), (7, v7), (12, [.sc (.int .i64 ((k + 1 : Nat) : Int))])] (by omega) I2 rfl rfl rfl rfl
      have wr : IntKind.i64.wrap ((k : Int) + 1) = (k : Int) + 1 := wi64 (by omega) (by omega)
      refine ⟨H', e', stepM (fun R RO RD RT E => ?_) lo, rest⟩
      clear lo rest I I2 oz bz
      generalize storeH H yb k (.int .u8 221) = H2 at *
      simp [M.b18_0, E.eqs, e1, e3, e7, e12, ln, c1, ix2, st, wr]
end

set_option maxHeartbeats 2000000 in
theorem core {H : Type} (h : Heap) (tvs : List TV) (ds : List (DataW H)) (hr : AllRo h) (hi : Ins Try.prog h 6 [30] tvs ds) (hz : (DataW.weightsEach Try.prog [30] ds).all (· ≤ reachBytes) = true) : ∃ h', callE F O 18 tvs h = some ([.sc (.bool true)], h') := by
  obtain ⟨tv, d, rfl, rfl, h1⟩ := ins_one hi
  obtain ⟨m, xe, xd, rfl, hE, hD, b1, b2, b3, hN⟩ := in_msgZ h1 (wok_of hz 0 rfl rfl)
  have am : MsAt h m xe xd := ⟨hE, hD, hN.index, by omega, by omega⟩
  obtain ⟨h0, hh0⟩ : ∃ h0 : Heap, h0 = h ++ [⟨.var, m.cells xe xd⟩] := ⟨_, rfl⟩
  have m0 : Mod (fun _ => False) h h0 := by rw [hh0]; exact Mod.app _ _ _
  have bA0 : h0[h.length]? = some ⟨.var, m.cells xe xd⟩ := by rw [hh0]; simp
  have lh0 : h0.length = h.length + 1 := by rw [hh0]; simp
  have ec0 := cellsL m xe xd
  have l0 := load15 bA0
  obtain ⟨g1, yb, q, f⟩ := spec28 (am.mod m0) hN
  unfold errM at q
  unfold encM at f
  cases hR : rightM m
  · rw [hR] at q
    simp only [Bool.false_eq_true, if_false] at q
    have kn := spec23 g1
    refine ⟨_, callX (hh := trim h g1 [.sc (.bool true)]) rfl (by rfl : F 18 = some M.a18) (fun R RO RD RT E => ?_)⟩
    clear bA0 am hE hD m0 f
    generalize m.cells xe xd = C0 at *
    simp [M.a18, E.eqs, ec0, ← hh0, q, l0, kn]
  rw [hR] at q f
  simp only [if_true] at q f
  obtain ⟨hle, _⟩ := bodyM_le hR hN am.es.trm
  have hsl := sealB_length (bodyM m)
  have hrm := rMsg_laid hR hN am.es.trm
  generalize sealB (bodyM m) = B at *
  obtain ⟨g2, mx, ex, dx, q2, p2, F2⟩ := spec47 f.row (by omega)
  rw [hrm] at q2 p2
  simp only at q2 p2
  have st2 := store_new g2 mx ex dx
  obtain ⟨g3, hg3⟩ : ∃ g3 : Heap, g3 = g2 ++ [⟨.var, mx.cells ex dx⟩] := ⟨_, rfl⟩
  have m3 : Mod (fun _ => False) g2 g3 := by rw [hg3]; exact Mod.app _ _ _
  have bx3 : g3[g2.length]? = some ⟨.var, mx.cells ex dx⟩ := by rw [hg3]; simp
  have lg3 : g3.length = g2.length + 1 := by rw [hg3]; simp
  rw [← hg3] at st2
  have m13 := F2.mod.trans m3 fun _ _ h => h
  obtain ⟨g4, my, ey, dy, q4, p4, F4⟩ := spec47 (f.row.mod m13 fun _ _ h => h) (by omega)
  rw [hrm] at q4 p4
  simp only at q4 p4
  have st4 := store_new g4 my ey dy
  obtain ⟨g5, hg5⟩ : ∃ g5 : Heap, g5 = g4 ++ [⟨.var, my.cells ey dy⟩] := ⟨_, rfl⟩
  have m5 : Mod (fun _ => False) g4 g5 := by rw [hg5]; exact Mod.app _ _ _
  have by5 : g5[g4.length]? = some ⟨.var, my.cells ey dy⟩ := by rw [hg5]; simp
  rw [← hg5] at st4
  have m35 := F4.mod.trans m5 fun _ _ h => h
  have bx5 := m35.get bx3 fun h => h
  have m25 := m3.trans m35 fun _ _ h => h
  have l01 : h0.length ≤ g1.length := f.mod.1
  have l12 : g1.length ≤ g2.length := F2.mod.1
  have l34 : g3.length ≤ g4.length := F4.mod.1
  have ylt := f.own.lt
  have sepy : ∀ j, blk yb j → (h0.length ≤ j ∧ j < g2.length) ∧ ¬ blk ex j := fun j hj => by
    have h1 := f.new j hj
    have h2 := ylt j hj
    exact ⟨⟨h1, by omega⟩, fun hb => by have := F2.eN j hb; omega⟩
  obtain ⟨_, hents⟩ := Ms.of_plain (m := m) (m' := mx) p2
  have hTx : ∀ z ∈ mx.es, z.1.T.length ≤ 140737488353280 := fun z hz => by
    have : z.1 ∈ m.ents := by rw [← hents]; exact List.mem_map_of_mem hz
    obtain ⟨w, hw, e⟩ := List.mem_map.1 this
    rw [← e]
    have := b3 w hw
    omega
  have I0 : OwI g5 g5 h0.length g2.length ex dx yb mx.es mx.D.length B.length :=
    ⟨Mod.refl _ _, fun z hz => ⟨⟨z.1.T, rfl, (F2.dat z hz).1.mod m25 fun _ _ h => h⟩, fun j hj => by
      have h1 := (F2.dat z hz).2 j hj
      have h2 := (F2.dat z hz).1.lt j hj
      exact ⟨⟨by omega, h2⟩, h1.2⟩⟩, ⟨⟨mx.D, rfl, F2.d.mod m25 fun _ _ h => h⟩, fun j hj => by
      have h1 := F2.dN j hj
      have h2 := F2.d.lt j hj
      exact ⟨⟨by omega, h2⟩, h1.2⟩⟩, ⟨⟨B, rfl, f.own.mod (m13.trans m35 fun _ _ h => h) fun _ _ h => h⟩, sepy⟩⟩
  have hpU : ¬ ((h0.length ≤ g2.length ∧ g2.length < g2.length) ∧ ¬ blk ex g2.length) := fun h => by omega
  have rx : Row g5 ex 5 mx.es.length (entC mx.es) := F2.ent.row.mod m25 fun _ _ h => h
  obtain ⟨k1, e1, lo1, I1, a1, a3, a5, a7⟩ := outer_loop (v1 := [.sc (.ptr h.length 0 15)]) (v3 := [.sc yb]) (v7 := [.sc (.ptr g4.length 0 15)]) bx5 hpU rx hTx F2.few mx.es.length 0 g5 [(1, [.sc (.ptr h.length 0 15)]), (3, [.sc yb]), (5, [.sc (.ptr g2.length 0 15)]), (7, [.sc (.ptr g4.length 0 15)]), (9, [.sc (.int .i64 0)])] (by omega) I0 rfl rfl rfl rfl rfl
  obtain ⟨k2, e2, lo2, I2, c1, c3, c7⟩ := data_loop (v1 := [.sc (.ptr h.length 0 15)]) (v3 := [.sc yb]) (v7 := [.sc (.ptr g4.length 0 15)]) bx5 hpU (by have := F2.dl; omega) mx.D.length 0 k1 [(1, [.sc (.ptr h.length 0 15)]), (3, [.sc yb]), (5, [.sc (.ptr g2.length 0 15)]), (7, [.sc (.ptr g4.length 0 15)]), (11, [.sc (.int .i64 0)])] (by omega) I1 rfl rfl rfl rfl rfl
  obtain ⟨k3, e3, lo3, I3, d1, d7⟩ := bytes_loop (v1 := [.sc (.ptr h.length 0 15)]) (v7 := [.sc (.ptr g4.length 0 15)]) (by omega) B.length 0 k2 [(1, [.sc (.ptr h.length 0 15)]), (3, [.sc yb]), (7, [.sc (.ptr g4.length 0 15)]), (12, [.sc (.int .i64 0)])] (by omega) I2 rfl rfl rfl rfl
  have lo1 := loop_run lo1
  have lo2 := loop_run lo2
  have lo3 := loop_run lo3
  have M3 := I3.mod
  have byk := M3.get by5 fun h => by omega
  have bmk := M3.get (m35.get (m13.get (f.mod.get bA0 fun h => h) fun h => h) fun h => h) fun h => by omega
  have hE' := am.es
  have amk : MsAt k3 m xe xd := by
    have mm : Mod (fun j => h0.length ≤ j) h k3 := ((m0.trans (f.mod.trans (m13.trans m35 fun _ _ h => h) fun _ _ h => h) fun _ _ h => h).mono fun _ _ h => h.elim).trans M3 fun j _ h => h.1.1
    have old : ∀ {y : SV} {sz n : Nat} {cs : List SV}, Row h y sz n cs → Row k3 y sz n cs := fun r => r.mod mm fun j hj e => by have := r.lt j hj; omega
    exact ⟨⟨old am.es.row, fun z hz => old (am.es.dat z hz), am.es.trm⟩, old am.dat, am.ix, am.nes, am.nd⟩
  have ayk : MsAt k3 my ey dy := by
    have a := F4.at'.mod m5
    have keep : ∀ {y : SV} {sz n : Nat} {cs : List SV}, Row g5 y sz n cs → (∀ j, blk y j → g3.length ≤ j) → Row k3 y sz n cs := fun r hj => r.mod M3 fun j h1 e => by have := hj j h1; omega
    exact ⟨⟨keep a.es.row F4.eN, fun z hz => keep (a.es.dat z hz) fun j hj => ((F4.dat z hz).2 j hj).1, a.es.trm⟩, keep a.dat fun j hj => (F4.dN j hj).1, a.ix, a.nes, a.nd⟩
  have same := spec26 ayk amk p4.symm
  have kn := spec23 k3
  have ly := load15 byk
  have lm := load15 bmk
  obtain ⟨Z, hZ⟩ : ∃ Z, Z = zC := ⟨_, rfl⟩
  rw [← hZ] at st2 st4
  have zl : Z.length = 15 := by rw [hZ]; rfl
  refine ⟨_, callX (hh := trim h k3 [.sc (.bool true)]) rfl (by rfl : F 18 = some M.a18) (fun R RO RD RT E => ?_)⟩
  have lo1 := E.run lo1
  have lo2 := E.run lo2
  have lo3 := E.run lo3
  clear bA0 am hE hD m0 f F2 F4 I0 I1 I2 I3 M3 amk ayk hg3 hg5 bx3 bx5 by5 byk bmk m3 m5 m13 m35 m25 rx hE'
  have top : ∀ r, R (sqd 8 M.a18.body) [(1, [.sc (.ptr h.length 0 15)]), (7, [.sc (.ptr g4.length 0 15)])] k3 = r → R M.a18.body (envFrom 0 [[.agg (m.cells xe xd)]]) h = r := fun r hr => by
    generalize m.cells xe xd = C0 at *
    generalize mx.cells ex dx = C1 at *
    generalize my.cells ey dy = C2 at *
    refine seqM E (e1 := [(1, [.sc (.ptr h.length 0 15)])]) (h1 := h0) ?_ (seqM E (e1 := [(1, [.sc (.ptr h.length 0 15)]), (3, [.sc yb]), (4, [.sc (.int .i64 0)])]) (h1 := g1) ?_ (seqM E (e1 := [(1, [.sc (.ptr h.length 0 15)]), (3, [.sc yb]), (19, [.sc (.bool false)])]) (h1 := g1) ?_ (seqM E (e1 := [(1, [.sc (.ptr h.length 0 15)]), (3, [.sc yb]), (5, [.sc (.ptr g2.length 0 15)])]) (h1 := g3) ?_ (seqM E (e1 := [(1, [.sc (.ptr h.length 0 15)]), (3, [.sc yb]), (5, [.sc (.ptr g2.length 0 15)]), (7, [.sc (.ptr g4.length 0 15)])]) (h1 := g5) ?_
      (seqM E (e1 := [(1, [.sc (.ptr h.length 0 15)]), (3, [.sc yb]), (5, [.sc (.ptr g2.length 0 15)]), (7, [.sc (.ptr g4.length 0 15)])]) (h1 := k1) ?_ (seqM E (e1 := [(1, [.sc (.ptr h.length 0 15)]), (3, [.sc yb]), (7, [.sc (.ptr g4.length 0 15)])]) (h1 := k2) ?_ (seqM E ?_ hr)))))))
    · simp [E.eqs, ← hh0, ec0]
    · simp [E.eqs, l0, q]
    · simp [E.eqs]
    · simp [E.eqs, q2, ← hZ, zl, st2]
    · simp [E.eqs, q4, ← hZ, zl, st4]
    · simp [E.eqs, lo1, a1, a3, a5, a7]
    · simp [E.eqs, lo2, c1, c3, c7]
    · simp [E.eqs, lo3, d1, d7]
  rw [top _ rfl]
  generalize m.cells xe xd = C0 at *
  generalize my.cells ey dy = C2 at *
  simp [M.a18, sqd, E.eqs, kn, ly, lm, same]
end Go.Proofs.Ytoghoddofokekaa.lawRpcOwn
