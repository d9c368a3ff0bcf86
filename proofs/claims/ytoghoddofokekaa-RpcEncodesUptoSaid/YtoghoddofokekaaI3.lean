/- Chapter 6: messages, encoded by the program. -/
import Derived.Test.YtoghoddofokekaaI2
set_option linter.unusedVariables false
set_option linter.unusedSimpArgs false
set_option maxRecDepth 100000
namespace Go.Proofs.Ytoghoddofokekaa
open Go.Abs

def layE (e : En) : List UInt8 := numB (entL e.kind e.term e.index e.T e.conf).length ++ entL e.kind e.term e.index e.T e.conf
def layEs : List En → List UInt8
  | [] => []
  | e :: l => layE e ++ layEs l
def flagB (b : Bool) : UInt8 := if b then 1 else 0
/-- a field's bytes -/
def layF (m : Ms) : Nat → List UInt8
  | 0 => numB m.term
  | 1 => numB m.index
  | 2 => numB m.lt
  | 3 => numB m.cm
  | 4 => [flagB m.rf]
  | 5 => numB m.bi ++ (numB m.bt ++ [UInt8.ofNat (m.bc % 256).toNat])
  | 6 => numB m.off.toNat
  | 7 => [flagB m.la]
  | 8 => numB m.D.length ++ m.D
  | _ => numB m.es.length ++ layEs m.ents
def layFromM (m : Ms) : Nat → Nat → List UInt8
  | 0, _ => []
  | n + 1, j => (if flM m.k j then layF m j else []) ++ layFromM m n (j + 1)
def bodyM (m : Ms) : List UInt8 := UInt8.ofNat (m.k % 256).toNat :: UInt8.ofNat (m.f % 256).toNat :: UInt8.ofNat (m.t % 256).toNat :: layFromM m 10 0
def encM (m : Ms) : List UInt8 := if rightM m then sealB (bodyM m) else []
def errM (m : Ms) : Int := if rightM m then 0 else 1

theorem layF_wes {m : Ms} {es : List (En × SV)} (h : es.map (·.1) = m.ents) (j : Nat) : layF (m.wes es) j = layF m j := by
  have hl : es.length = m.es.length := by rw [Ms.len_ents, ← h]; simp
  unfold layF
  rw [show (m.wes es).ents = m.ents from h]
  simp only [Ms.wes, hl]
theorem layFromM_wes {m : Ms} {es : List (En × SV)} (h : es.map (·.1) = m.ents) : ∀ n j, layFromM (m.wes es) n j = layFromM m n j
  | 0, j => rfl
  | n + 1, j => by
    unfold layFromM
    rw [layF_wes h, layFromM_wes h n (j + 1)]
    rfl
theorem bodyM_wes {m : Ms} {es : List (En × SV)} (h : es.map (·.1) = m.ents) : bodyM (m.wes es) = bodyM m := by
  unfold bodyM
  rw [layFromM_wes h]
  rfl
theorem encM_wes {m : Ms} {es : List (En × SV)} (h : es.map (·.1) = m.ents) : encM (m.wes es) = encM m := by
  unfold encM
  rw [rightM_wes h, bodyM_wes h]
theorem errM_wes {m : Ms} {es : List (En × SV)} (h : es.map (·.1) = m.ents) : errM (m.wes es) = errM m := by
  unfold errM
  rw [rightM_wes h]

/-- what a message that may be has -/
structure LayOk (m : Ms) : Prop where
  es4 : m.es.length ≤ 4
  right : ∀ z ∈ m.es, z.1.right = true
  d : m.D.length ≤ 256
  off : 0 ≤ m.off ∧ m.off ≤ 32768
theorem follow_right {index term : Nat} : ∀ {l : List En} {i t : Nat}, followF index term l i t = true → ∀ e ∈ l, e.right = true
  | [], i, t, h, e, he => by simp at he
  | y :: l, i, t, h, e, he => by
    unfold followF at h
    simp only [Bool.and_eq_true] at h
    rcases List.mem_cons.1 he with rfl | he
    · exact h.1.1.1.1
    · exact follow_right h.2 e he
theorem right_ok {m : Ms} (h : rightM m = true) : LayOk m := by
  rw [rightM_same] at h
  simp only [Bool.and_eq_true] at h
  obtain ⟨_, _, _, h4, h5, h6⟩ := h
  unfold followB at h6
  simp only [Bool.and_eq_true] at h6
  unfold ask4 offB at h4
  simp at h4 h5
  refine ⟨by have := h6.1; rw [Ms.len_ents]; simpa using this, fun z hz => follow_right h6.2 z.1 (List.mem_map_of_mem hz), h5, h4.1⟩

theorem entL_le {e : En} (hr : e.right = true) (ht : e.term < 18446744073709551616) (hi : e.index < 18446744073709551616) : (entL e.kind e.term e.index e.T e.conf).length ≤ 160 ∧ e.T.length ≤ 128 := by
  have hr' : rightE e.kind e.term e.index e.T.length e.conf = true := hr
  unfold entL
  rw [hr']
  exact ⟨entB_le hr' ht hi, (right_kind hr').2⟩
theorem layE_le {e : En} (hr : e.right = true) (ht : e.term < 18446744073709551616) (hi : e.index < 18446744073709551616) : (layE e).length ≤ 170 := by
  have h1 := (entL_le hr ht hi).1
  have h2 := numB_le (n := (entL e.kind e.term e.index e.T e.conf).length) (by omega)
  unfold layE
  simp
  omega
theorem layEs_le : ∀ {l : List En}, (∀ e ∈ l, e.right = true ∧ e.term < 18446744073709551616 ∧ e.index < 18446744073709551616) → (layEs l).length ≤ 170 * l.length
  | [], _ => by simp [layEs]
  | e :: l, h => by
    have h1 := layEs_le (l := l) fun x hx => h x (List.mem_cons_of_mem _ hx)
    obtain ⟨h2, h3, h4⟩ := h e (by simp)
    have := layE_le h2 h3 h4
    simp [layEs]
    omega
theorem layF_le {m : Ms} (ok : LayOk m) (N : MsN m) (trm : ∀ z ∈ m.es, z.1.term < 18446744073709551616 ∧ z.1.index < 18446744073709551616) (j : Nat) : (layF m j).length ≤ 700 := by
  have n0 := numB_le N.term
  have n1 := numB_le N.index
  have n2 := numB_le N.lt
  have n3 := numB_le N.cm
  have n4 := numB_le N.bi
  have n5 := numB_le N.bt
  have n6 := numB_le (n := m.off.toNat) (by have := ok.off; omega)
  have n7 := numB_le (n := m.D.length) (by have := ok.d; omega)
  have n8 := numB_le (n := m.es.length) (by have := ok.es4; omega)
  have n9 := layEs_le (l := m.ents) fun e he => by
    obtain ⟨z, hz, rfl⟩ := List.mem_map.1 he
    exact ⟨ok.right z hz, trm z hz⟩
  rw [← Ms.len_ents] at n9
  have := ok.es4
  have := ok.d
  unfold layF
  split <;> simp <;> omega
theorem layFromM_le {m : Ms} (ok : LayOk m) (N : MsN m) (trm : ∀ z ∈ m.es, z.1.term < 18446744073709551616 ∧ z.1.index < 18446744073709551616) : ∀ (n j : Nat), (layFromM m n j).length ≤ 700 * n
  | 0, j => by simp [layFromM]
  | n + 1, j => by
    have h1 := layF_le ok N trm j
    have h2 := layFromM_le ok N trm n (j + 1)
    unfold layFromM
    split <;> simp <;> omega

theorem WStep.idle {h h' : Heap} {i : Nat} {l : List UInt8} (w : Wr h i l) (m : Mod (fun _ => False) h h') : WStep h i l h' [] := by
  obtain ⟨a1, a2⟩ := wr_other w m fun _ _ h => h
  exact ⟨by simpa using a1, m.mono fun _ _ h => h.elim, fun j hj => .inl (a2 j hj)⟩

theorem spec104 {h : Heap} {i : Nat} {l : List UInt8} (b : Bool) (w : Wr h i l) (hl : l.length ≤ 2 ^ 40) : ∃ h', call 104 [[.sc (.ptr i 0 1)], [.sc (.bool b)]] h = some ([], h') ∧ WStep h i l h' [flagB b] := by
  cases b
  · obtain ⟨g, e, st⟩ := spec61 0 w hl
    have e : call 61 [[.sc (.ptr i 0 1)], [.sc (.int .u8 0)]] h = some ([], g) := e
    refine ⟨_, callX (hh := trim h g []) rfl (by rfl : F 104 = some M.a104) (fun R RO RD RT E => ?_), st.trim w []⟩
    simp [M.a104, E.eqs, e]
  · obtain ⟨g, e, st⟩ := spec61 1 w hl
    have e : call 61 [[.sc (.ptr i 0 1)], [.sc (.int .u8 1)]] h = some ([], g) := e
    refine ⟨_, callX (hh := trim h g []) rfl (by rfl : F 104 = some M.a104) (fun R RO RD RT E => ?_), st.trim w []⟩
    simp [M.a104, E.eqs, e]

section
variable {h0 : Heap} {i : Nat} {xe xd : SV} {m : Ms}

set_option maxHeartbeats 1000000 in
theorem lay_loop {es : List (En × SV)} (hE : EsAt h0 xe es) (hn : es.length ≤ 4) (hR : ∀ z ∈ es, z.1.right = true) : ∀ (n k : Nat) (H : Heap) (w : List UInt8) (e : Env), k + n = es.length → LI h0 H i w → w.length + 200 * n ≤ 2 ^ 36 → e.get 0 = [.sc (.ptr i 0 1)] → e.get 87 = [.sc xe] → e.get 88 = [.sc (.int .i64 es.length)] → e.get 89 = [.sc (.int .i64 k)] →
    ∃ (H' : Heap) (e' : Env), loopE F O (.loop [0, 87, 88, 89] M.b62_0) e H = some (.exit 1, e', H') ∧ WStep H i w H' (layEs ((es.drop k).map (·.1)))
  | 0, k, H, w, e, hk, li, hw, e0, e1, e2, e3 => by
    have hd : es.drop k = [] := List.drop_eq_nil_of_le (by omega)
    have c2 : ¬ k < es.length := by omega
    refine ⟨H, [(0, [.sc (.ptr i 0 1)]), (87, [.sc xe]), (88, [.sc (.int .i64 es.length)]), (89, [.sc (.int .i64 k)]), (90, [.sc (.bool false)])], exitM fun R RO RD RT E => ?_, by rw [hd]; exact WStep.refl li.wr⟩
    simp [M.b62_0, E.eqs, e0, e1, e2, e3, c2]
  | n + 1, k, H, w, e, hk, li, hw, e0, e1, e2, e3 => by
    have hlt : k < es.length := by omega
    obtain ⟨z, hz⟩ : ∃ z, es[k]? = some z := ⟨_, List.getElem?_eq_getElem hlt⟩
    have hd : es.drop k = z :: es.drop (k + 1) := by
      rw [List.drop_eq_getElem_cons hlt]
      congr 1
      rw [List.getElem?_eq_getElem hlt] at hz
      injection hz
    have hzm := List.mem_of_getElem? hz
    have hEH := hE.mod li.mod
    have ld := loadA_ent hEH.row hz
    have ix := ixsA_row hEH.row hlt
    obtain ⟨H1, hH1⟩ : ∃ H1 : Heap, H1 = H ++ [⟨.var, z.1.c z.2⟩] := ⟨_, rfl⟩
    have m1 : Mod (fun _ => False) H H1 := by rw [hH1]; exact Mod.app _ _ _
    have b1 : H1[H.length]? = some ⟨.var, z.1.c z.2⟩ := by rw [hH1]; simp
    have trm := hE.trm z hzm
    have hle := entL_le (hR z hzm) trm.1 trm.2
    obtain ⟨H2, y, q2, f2⟩ := spec40 (kind := z.1.kind) (conf := z.1.conf) ((hEH.dat z hzm).mod m1 fun _ _ h => h) trm.1 trm.2
    have q2 : call 40 [[.agg (z.1.c z.2)]] H1 = some ([.sc y, .sc (.int .i64 (entE z.1.kind z.1.term z.1.index z.1.T z.1.conf))], H2) := q2
    have m12 := m1.trans f2.mod fun _ _ h => h
    have i2 := WStep.idle li.wr m12
    have w2 : Wr H2 i w := by simpa using i2.wr
    obtain ⟨H3, q3, st3⟩ := spec91 w2 (by omega) f2.row (by omega) (fun j hj hs => by
      have h1 := f2.new j hj
      rcases i2.new j hs with h2 | h2
      · have := li.wr.wset_lt j h2; have := m1.1; omega
      · obtain ⟨x, hx, ho, hd⟩ := li.wr
        have := (wr_other (li.wr) m12 fun _ _ h => h).2 j hs
        have := li.wr.wset_lt j this
        have := m1.1
        omega)
    have st : WStep H i w H3 (layE z.1) := by
      have := i2.trans (h'' := H3) (m' := layE z.1) (by simpa [layE] using st3)
      simpa using this
    obtain ⟨H', e', lo, stf⟩ := lay_loop hE hn hR n (k + 1) H3 (w ++ layE z.1) [(0, [.sc (.ptr i 0 1)]), (87, [.sc xe]), (88, [.sc (.int .i64 es.length)]), (89, [.sc (.int .i64 ((k + 1 : Nat) : Int))])] (by omega) (li.step st) (by have := layE_le (hR z hzm) trm.1 trm.2; simp; omega) rfl rfl rfl rfl
    refine ⟨H', e', stepM (fun R RO RD RT E => ?_) lo, by rw [hd]; exact st.trans stf⟩
    clear lo stf st st3 i2 f2
    have w1 : IntKind.i64.wrap ((k : Int) + 1) = (k : Int) + 1 := wi64 (by omega) (by omega)
    have d0 : setCells [.int .i64 0, .int .u64 0, .int .u64 0, .nils, .int .i64 0] 0 (z.1.c z.2) = z.1.c z.2 := rfl
    have d1 : (z.1.c z.2).length = 5 := rfl
    have d2 : (z.1.c z.2).take 5 = z.1.c z.2 := rfl
    generalize z.1.c z.2 = zc at *
    have l5 : loadA H1 true 5 [.sc (.ptr H.length 0 5)] = some ([.agg zc], H1) := by simp [loadA, b1, d1, d2]
    simp [M.b62_0, E.eqs, e0, e1, e2, e3, hlt, ix, ld, d0, ← hH1, freshB, fldA, l5, storeA, b1, d1, q2, q3, w1]

set_option maxHeartbeats 2000000 in
theorem spec62 (a : MsAt h0 m xe xd) (N : MsN m) (ok : LayOk m) {h : Heap} {l : List UInt8} (li : LI h0 h i l) (hl : l.length ≤ 2 ^ 35) {j : Nat} (hj : j < 10) :
    ∃ h', call 62 [[.sc (.ptr i 0 1)], [.agg (m.cells xe xd)], [.sc (.int .i64 (pwM j))]] h = some ([], h') ∧ WStep h i l h' (layF m j) := by
  have w := li.wr
  obtain ⟨hb, hhb⟩ : ∃ hb : Heap, hb = h ++ [⟨.var, m.cells xe xd⟩] := ⟨_, rfl⟩
  have wb : Wr hb i l := by rw [hhb]; exact w.app _
  have bx : ∀ {g : Heap} {m' : List UInt8}, WStep hb i l g m' → g[h.length]? = some ⟨.var, m.cells xe xd⟩ := fun st => by rw [hhb] at st; exact WStep.box w st
  have be : ∀ {g : Heap} {m' : List UInt8}, WStep hb i l g m' → WStep h i l (trim h g []) m' := fun st => by rw [hhb] at st; exact (WStep.before w st).trim w []
  have mb : Mod (fun _ => False) h hb := by rw [hhb]; exact Mod.app _ _ _
  have bb : hb[h.length]? = some ⟨.var, m.cells xe xd⟩ := by rw [hhb]; simp
  have ab := (a.mod li.mod).mod mb
  have lib : LI h0 hb i l := by have := li.step (WStep.idle w mb); simpa using this
  have cl : (m.cells xe xd).length = 15 := rfl
  have c3 : ∀ hh, (m.cells xe xd)[3]'hh = .int .u64 m.term := fun _ => rfl
  have c4 : ∀ hh, (m.cells xe xd)[4]'hh = .int .u64 m.index := fun _ => rfl
  have c5 : ∀ hh, (m.cells xe xd)[5]'hh = .int .u64 m.lt := fun _ => rfl
  have c6 : ∀ hh, (m.cells xe xd)[6]'hh = xe := fun _ => rfl
  have c7 : ∀ hh, (m.cells xe xd)[7]'hh = .int .u64 m.cm := fun _ => rfl
  have c8 : ∀ hh, (m.cells xe xd)[8]'hh = .bool m.rf := fun _ => rfl
  have c9 : ∀ hh, (m.cells xe xd)[9]'hh = .int .u64 m.bi := fun _ => rfl
  have c10 : ∀ hh, (m.cells xe xd)[10]'hh = .int .u64 m.bt := fun _ => rfl
  have c11 : ∀ hh, (m.cells xe xd)[11]'hh = .int .i64 m.bc := fun _ => rfl
  have c12 : ∀ hh, (m.cells xe xd)[12]'hh = .int .i64 m.off := fun _ => rfl
  have c13 : ∀ hh, (m.cells xe xd)[13]'hh = xd := fun _ => rfl
  have c14 : ∀ hh, (m.cells xe xd)[14]'hh = .bool m.la := fun _ => rfl
  rcases j10 hj with rfl | rfl | rfl | rfl | rfl | rfl | rfl | rfl | rfl | rfl
  · obtain ⟨g, e1, st⟩ := spec70 N.term wb (by omega)
    refine ⟨_, callX (hh := trim h g []) rfl (by rfl : F 62 = some M.a62) (fun R RO RD RT E => ?_), be st⟩
    clear st a ab li lib
    generalize m.cells xe xd = cs at *
    simp [M.a62, E.eqs, ← hhb, fldA, freshB, loadA, bb, cl, c3, pwM, e1]
  · obtain ⟨g, e1, st⟩ := spec70 N.index wb (by omega)
    refine ⟨_, callX (hh := trim h g []) rfl (by rfl : F 62 = some M.a62) (fun R RO RD RT E => ?_), be st⟩
    clear st a ab li lib
    generalize m.cells xe xd = cs at *
    simp [M.a62, E.eqs, ← hhb, fldA, freshB, loadA, bb, cl, c4, pwM, e1]
  · obtain ⟨g, e1, st⟩ := spec70 N.lt wb (by omega)
    refine ⟨_, callX (hh := trim h g []) rfl (by rfl : F 62 = some M.a62) (fun R RO RD RT E => ?_), be st⟩
    clear st a ab li lib
    generalize m.cells xe xd = cs at *
    simp [M.a62, E.eqs, ← hhb, fldA, freshB, loadA, bb, cl, c5, pwM, e1]
  · obtain ⟨g, e1, st⟩ := spec70 N.cm wb (by omega)
    refine ⟨_, callX (hh := trim h g []) rfl (by rfl : F 62 = some M.a62) (fun R RO RD RT E => ?_), be st⟩
    clear st a ab li lib
    generalize m.cells xe xd = cs at *
    simp [M.a62, E.eqs, ← hhb, fldA, freshB, loadA, bb, cl, c7, pwM, e1]
  · obtain ⟨g, e1, st⟩ := spec104 m.rf wb (by omega)
    refine ⟨_, callX (hh := trim h g []) rfl (by rfl : F 62 = some M.a62) (fun R RO RD RT E => ?_), be st⟩
    clear st a ab li lib
    generalize m.cells xe xd = cs at *
    simp [M.a62, E.eqs, ← hhb, fldA, freshB, loadA, bb, cl, c8, pwM, e1]
  · have n1 := numB_le N.bi
    have n2 := numB_le N.bt
    obtain ⟨b, hbd⟩ : ∃ b, b = UInt8.ofNat (m.bc % 256).toNat := ⟨_, rfl⟩
    have hw := byte_of m.bc
    rw [← hbd] at hw
    obtain ⟨g1, e1, st1⟩ := spec70 N.bi wb (by omega)
    obtain ⟨g2, e2, st2⟩ := spec70 N.bt st1.wr (by simp; omega)
    obtain ⟨g3, e3, st3⟩ := spec61 b st2.wr (by simp; omega)
    have b1 := bx st1
    have b2 := bx (st1.trans st2)
    refine ⟨_, callX (hh := trim h g3 []) rfl (by rfl : F 62 = some M.a62) (fun R RO RD RT E => ?_), ?_⟩
    · clear st1 st2 st3 a ab li lib bx be
      generalize m.cells xe xd = cs at *
      simp [M.a62, E.eqs, ← hhb, fldA, freshB, loadA, bb, b1, b2, cl, c9, c10, c11, pwM, e1, e2, e3, hw]
    · have := be (st1.trans (st2.trans (by simpa using st3)))
      unfold layF
      rw [← hbd]
      exact this
  · have ho := ok.off
    obtain ⟨n, hn⟩ : ∃ n : Nat, m.off = n := ⟨m.off.toNat, by omega⟩
    obtain ⟨g, e1, st⟩ := spec70 (n := n) (by omega) wb (by omega)
    have wr : IntKind.u64.wrap (n : Int) = n := wu64 (by omega) (by omega)
    refine ⟨_, callX (hh := trim h g []) rfl (by rfl : F 62 = some M.a62) (fun R RO RD RT E => ?_), ?_⟩
    · clear st a ab li lib
      rw [hn] at c12
      generalize m.cells xe xd = cs at *
      simp [M.a62, E.eqs, ← hhb, fldA, freshB, loadA, bb, cl, c12, pwM, e1, wr]
    · have := be st
      unfold layF
      rw [hn]
      exact this
  · obtain ⟨g, e1, st⟩ := spec104 m.la wb (by omega)
    refine ⟨_, callX (hh := trim h g []) rfl (by rfl : F 62 = some M.a62) (fun R RO RD RT E => ?_), be st⟩
    clear st a ab li lib
    generalize m.cells xe xd = cs at *
    simp [M.a62, E.eqs, ← hhb, fldA, freshB, loadA, bb, cl, c14, pwM, e1]
  · have hd := ok.d
    obtain ⟨g, e1, st⟩ := spec91 wb (by omega) ab.dat (by omega) (fun j hj hs => by have := lib.new j hs; have := a.dat.lt j hj; omega)
    refine ⟨_, callX (hh := trim h g []) rfl (by rfl : F 62 = some M.a62) (fun R RO RD RT E => ?_), be st⟩
    clear st a ab li lib
    generalize m.cells xe xd = cs at *
    simp [M.a62, E.eqs, ← hhb, fldA, freshB, loadA, bb, cl, c13, pwM, e1]
  · have h4 := ok.es4
    obtain ⟨g, e1, st⟩ := spec70 (n := m.es.length) (by omega) wb (by omega)
    have n1 := numB_le (n := m.es.length) (by omega)
    have b1 := bx st
    have wr : IntKind.u64.wrap (m.es.length : Int) = m.es.length := wu64 (by omega) (by omega)
    have lig := lib.step st
    have ln := lenA_row ab.es.row
    have lg := lenA_row (a.mod lig.mod).es.row
    obtain ⟨g2, e', lo, st2⟩ := lay_loop a.es h4 ok.right m.es.length 0 g (l ++ numB m.es.length) [(0, [.sc (.ptr i 0 1)]), (87, [.sc xe]), (88, [.sc (.int .i64 m.es.length)]), (89, [.sc (.int .i64 0)])] (by omega) lig (by simp; omega) rfl rfl rfl rfl
    have lo := loop_run lo
    have stt := be (st.trans st2)
    refine ⟨_, callX (hh := trim h g2 []) rfl (by rfl : F 62 = some M.a62) (fun R RO RD RT E => ?_), ?_⟩
    · have lo := E.run lo
      clear st st2 stt a ab li lib lig bx be
      generalize m.cells xe xd = cs at *
      simp [M.a62, E.eqs, ← hhb, fldA, freshB, loadA, bb, b1, cl, c6, pwM, ln, lg, wr, e1, lo]
    · rw [List.drop_zero] at stt
      exact stt

theorem encM_loop {p : Nat} (hp : h0[p]? = some ⟨.var, m.cells xe xd⟩) (a : MsAt h0 m xe xd) (N : MsN m) (ok : LayOk m) : ∀ (n j : Nat) (h : Heap) (w : List UInt8) (e : Env), j + n = 10 → LI h0 h i w → w.length + 700 * n ≤ 2 ^ 33 → e.get 1 = [.sc (.ptr p 0 15)] → e.get 4 = [.sc (.ptr i 0 1)] → e.get 5 = [.sc (.int .i64 (maskM m.k))] → e.get 6 = [.sc (.int .i64 (pwM j))] →
    ∃ h' e', loopE F O (.loop [1, 4, 5, 6] M.b27_0) e h = some (.exit 0, e', h') ∧ e'.get 4 = [.sc (.ptr i 0 1)] ∧ LI h0 h' i (w ++ layFromM m n j)
  | 0, j, h, w, e, hj, li, hw, e1, e4, e5, e6 => by
    have : j = 10 := by omega
    subst this
    have p7 : pwM 10 = 1024 := rfl
    rw [p7] at e6
    refine ⟨h, [(1, [.sc (.ptr p 0 15)]), (4, [.sc (.ptr i 0 1)]), (5, [.sc (.int .i64 (maskM m.k))]), (6, [.sc (.int .i64 1024)]), (30, [.sc (.bool false)])], exitM fun R RO RD RT E => ?_, rfl, by simpa [layFromM] using li⟩
    simp [M.b27_0, E.eqs, e1, e4, e5, e6]
  | n + 1, j, h, w, e, hj, li, hw, e1, e4, e5, e6 => by
    have hlt : j < 10 := by omega
    have mb := maskM_bit m.k j hlt
    have p1 := pwM_ne hlt
    have p2 := pwM_lt hlt
    have p3 := pwM_shl hlt
    have hle := layF_le ok N a.es.trm j
    have hB := li.mod.get hp fun h => h
    have hlen : (m.cells xe xd).length = 15 := rfl
    have ht : (m.cells xe xd).take 15 = m.cells xe xd := rfl
    cases hf : flM m.k j
    · obtain ⟨h', e', lo, g4, li'⟩ := encM_loop hp a N ok n (j + 1) h w [(1, [.sc (.ptr p 0 15)]), (4, [.sc (.ptr i 0 1)]), (5, [.sc (.int .i64 (maskM m.k))]), (6, [.sc (.int .i64 (pwM (j + 1)))])] (by omega) li (by omega) rfl rfl rfl rfl
      rw [hf] at mb
      simp only [Bool.false_eq_true, if_false] at mb
      refine ⟨h', e', stepM (fun R RO RD RT E => ?_) lo, g4, by rw [layFromM, hf]; simpa using li'⟩
      clear lo li'
      generalize pwM (j + 1) = pn at *
      generalize pwM j = pj at *
      simp [M.b27_0, E.eqs, e1, e4, e5, e6, p1, p2, p3, mb]
    · obtain ⟨h1, q1, st1⟩ := spec62 a N ok li (by omega) hlt
      have li1 := li.step st1
      obtain ⟨h', e', lo, g4, li'⟩ := encM_loop hp a N ok n (j + 1) h1 (w ++ layF m j) [(1, [.sc (.ptr p 0 15)]), (4, [.sc (.ptr i 0 1)]), (5, [.sc (.int .i64 (maskM m.k))]), (6, [.sc (.int .i64 (pwM (j + 1)))])] (by omega) li1 (by simp; omega) rfl rfl rfl rfl
      rw [hf] at mb
      simp only [if_true] at mb
      refine ⟨h', e', stepM (fun R RO RD RT E => ?_) lo, g4, by rw [layFromM, hf]; simpa using li'⟩
      clear lo li' st1 li1 a
      generalize pwM (j + 1) = pn at *
      generalize pwM j = pj at *
      generalize m.cells xe xd = cs at *
      simp [M.b27_0, E.eqs, e1, e4, e5, e6, p1, p2, p3, mb, loadA, hB, hlen, ht, q1]
end

set_option maxHeartbeats 1000000 in
theorem spec27 {h : Heap} {m : Ms} {xe xd : SV} (a : MsAt h m xe xd) (N : MsN m) :
    ∃ h' y, call 27 [[.agg (m.cells xe xd)]] h = some ([.sc y, .sc (.int .i64 (errM m))], h') ∧ Fresh h h' y (encM m) := by
  obtain ⟨hb, hhb⟩ : ∃ hb : Heap, hb = h ++ [⟨.var, m.cells xe xd⟩] := ⟨_, rfl⟩
  have bb : hb[h.length]? = some ⟨.var, m.cells xe xd⟩ := by rw [hhb]; simp
  have mb : Mod (fun _ => False) h hb := by rw [hhb]; exact Mod.app _ _ _
  have ab := a.mod mb
  have qr := spec24 ab
  have hlen : (m.cells xe xd).length = 15 := rfl
  have ht : (m.cells xe xd).take 15 = m.cells xe xd := rfl
  have c0 : ∀ hh, (m.cells xe xd)[0]'hh = .int .i64 m.k := fun _ => rfl
  have c1 : ∀ hh, (m.cells xe xd)[1]'hh = .int .i64 m.f := fun _ => rfl
  have c2 : ∀ hh, (m.cells xe xd)[2]'hh = .int .i64 m.t := fun _ => rfl
  unfold encM errM
  cases hc : rightM m
  · rw [hc] at qr
    have tr : trim h hb [.sc .nils, .sc (.int .i64 1)] = h := by rw [hhb]; exact trim_pure rfl
    refine ⟨_, .nils, callX (hh := h) rfl (by rfl : F 27 = some M.a27) (fun R RO RD RT E => ?_), Fresh.nils (Mod.refl _ _)⟩
    clear a ab
    generalize m.cells xe xd = cs at *
    simp [M.a27, E.eqs, ← hhb, bb, fldA, freshB, loadA, hlen, ht, qr, tr]
  · rw [hc] at qr
    have ok := right_ok hc
    have s0 := spec60 hb
    have l0 := li_new hb
    obtain ⟨b0, hb0⟩ : ∃ b, b = UInt8.ofNat (m.k % 256).toNat := ⟨_, rfl⟩
    obtain ⟨b1, hb1⟩ : ∃ b, b = UInt8.ofNat (m.f % 256).toNat := ⟨_, rfl⟩
    obtain ⟨b2, hb2⟩ : ∃ b, b = UInt8.ofNat (m.t % 256).toNat := ⟨_, rfl⟩
    have w0 := byte_of m.k
    have w1 := byte_of m.f
    have w2 := byte_of m.t
    rw [← hb0] at w0
    rw [← hb1] at w1
    rw [← hb2] at w2
    obtain ⟨g1, e1, st1⟩ := spec61 b0 l0.wr (by simp)
    have l1 := l0.step st1
    obtain ⟨g2, e2, st2⟩ := spec61 b1 l1.wr (by simp)
    have l2 := l1.step st2
    obtain ⟨g3, e3, st3⟩ := spec61 b2 l2.wr (by simp)
    have l3 := l2.step st3
    obtain ⟨g4, e', lo, g5, l4⟩ := encM_loop bb ab N ok 10 0 g3 _ [(1, [.sc (.ptr h.length 0 15)]), (4, [.sc (.ptr hb.length 0 1)]), (5, [.sc (.int .i64 (maskM m.k))]), (6, [.sc (.int .i64 1)])] (by omega) l3 (by simp) rfl rfl rfl rfl
    have lo := loop_run lo
    have hle := layFromM_le ok N a.es.trm 10 0
    obtain ⟨g6, y, e6, f6⟩ := spec64 l4.wr (by simp; omega)
    obtain ⟨g7, y2, e7, f7⟩ := spec63 f6.row (by simp; omega)
    have qf := fun h => spec50 h m.k
    have x0 : (hb ++ [⟨.var, [.nils]⟩])[h.length]? = some ⟨.var, m.cells xe xd⟩ := l0.mod.get bb fun h => h
    have x1 := l1.mod.get bb fun h => h
    have x2 := l2.mod.get bb fun h => h
    have x3 := l3.mod.get bb fun h => h
    have fr : Fresh h g7 y2 (sealB (bodyM m)) := by
      have := f7.after ((mb.trans l4.mod fun _ _ h => h).trans f6.mod fun _ _ h => h)
      unfold bodyM
      rw [← hb0, ← hb1, ← hb2]
      simpa using this
    refine ⟨_, y2, callX (hh := trim h g7 [.sc y2, .sc (.int .i64 0)]) rfl (by rfl : F 27 = some M.a27) (fun R RO RD RT E => ?_), fr.trim2 _⟩
    have lo := E.run lo
    clear fr f6 f7 l4 st1 st2 st3 l3 l2 l1 l0 a ab
    generalize m.cells xe xd = cs at *
    simp [M.a27, E.eqs, ← hhb, bb, fldA, freshB, loadA, hlen, ht, c0, c1, c2, qr, s0, x0, x1, x2, x3, w0, w1, w2, e1, e2, e3, qf, lo, g5, e6, e7]
end Go.Proofs.Ytoghoddofokekaa
