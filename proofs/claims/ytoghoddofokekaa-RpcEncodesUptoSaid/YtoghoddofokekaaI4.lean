/- Chapter 6: messages, encoded by the document. -/
import Derived.Test.YtoghoddofokekaaI3
set_option linter.unusedVariables false
set_option linter.unusedSimpArgs false
set_option maxRecDepth 100000
namespace Go.Proofs.Ytoghoddofokekaa
open Go.Abs

theorem Fresh.pass {h h1 h2 : Heap} {y : SV} {l : List UInt8} (a : Fresh h h1 y l) (m : Mod (fun _ => False) h1 h2) : Fresh h h2 y l :=
  ⟨a.own.mod m fun _ _ h => h, a.mod.trans m fun _ _ h => h, a.new⟩
theorem own_sl {h : Heap} {y : SV} {l : List UInt8} (hy : Own h y 5 1 l.length (Go.Abs.bytes l)) (hne : l ≠ []) : ∃ b n c, y = .sl b 0 n c := by
  rcases hy with ⟨_, h1, _⟩ | ⟨b, h1, _⟩
  · exact absurd (List.eq_nil_of_length_eq_zero h1) hne
  · exact ⟨b, _, _, h1⟩
theorem trim_sl (h h' : Heap) (b n c : Nat) : Go.Abs.trim h h' [.sc (.sl b 0 n c)] = h' := by simp [Go.Abs.trim, pureT, pureV, pureS]

theorem spec68 (h : Heap) (b : Bool) : call 68 [[.sc (.bool b)]] h = some ([.sc (.int .u8 (flagB b).toNat)], h) := by
  refine callX rfl (by rfl : F 68 = some M.a68) (fun R RO RD RT E => ?_)
  cases b <;> simp [M.a68, E.eqs, flagB]

theorem spec66 {h : Heap} {y : SV} {l : List UInt8} (hy : Own h y 5 1 l.length (Go.Abs.bytes l)) (hne : l ≠ []) (hl : l.length ≤ 2 ^ 30) {f w : List UInt8} (hf : f.length < 1000) {n : Nat} (hn : n < 18446744073709551616) :
    ∃ h' y', call 66 [[.sc y], [.sc (.str f)], [.sc (.str w)], [.sc (.int .u64 n)]] h = some ([.sc y'], h') ∧ OStep h y l h' y' (if hasL f w then numB n else []) := by
  have qh := spec56 h (w := w) hf
  obtain ⟨b, n0, c0, rfl⟩ := own_sl hy hne
  cases hh : hasL f w
  · rw [hh] at qh
    refine ⟨h, _, callX (hh := h) rfl (by rfl : F 66 = some M.a66) (fun R RO RD RT E => ?_), OStep.refl hy⟩
    simp [M.a66, E.eqs, qh]
  · rw [hh] at qh
    obtain ⟨g1, y1, e1, f1⟩ := spec65 h hn
    have nl := numB_le hn
    obtain ⟨a1, st⟩ := own_app (hy.mod f1.mod fun _ _ h => h) (srcOf_row f1.row) (by simp [lim]; omega)
    have so : OStep h (.sl b 0 n0 c0) l _ _ (numB n) := ⟨st.own, (f1.mod.mono fun _ _ h => h.elim).trans st.mod fun j _ h => h, fun j hj => (st.new j hj).imp id fun h2 => Nat.le_trans f1.mod.1 h2⟩
    have tr := trim_sl h (appH g1 (.sl b 0 n0 c0) 5 1 (numB n).length (Go.Abs.bytes (numB n))) b (n0 + (numB n).length) (c0 + (numB n).length * 1)
    have av : appV g1 (.sl b 0 n0 c0) 1 (numB n).length = .sl b 0 (n0 + (numB n).length) (c0 + (numB n).length * 1) := rfl
    rw [av] at a1 so
    generalize appH g1 (.sl b 0 n0 c0) 5 1 (numB n).length (Go.Abs.bytes (numB n)) = g2 at *
    refine ⟨g2, _, callX (hh := g2) rfl (by rfl : F 66 = some M.a66) (fun R RO RD RT E => ?_), so⟩
    clear so st f1
    generalize (n0 + (numB n).length) = n1 at *
    generalize (c0 + (numB n).length * 1) = c1 at *
    simp [M.a66, E.eqs, qh, e1, a1, tr]

theorem imm_app3 {h : Heap} {y : SV} {l : List UInt8} (hy : Row h y 1 l.length (Go.Abs.bytes l)) (hne : l ≠ []) (hl : l.length + 3 < lim) (a b c : UInt8) :
    appA h 5 1 1 (.imm 3 [.int .u8 a.toNat, .int .u8 b.toNat, .int .u8 c.toNat]) (.sc y) = some ([.sc (.sl h.length 0 (a :: b :: c :: l).length (a :: b :: c :: l).length)], h ++ [⟨.row 5 1, Go.Abs.bytes (a :: b :: c :: l)⟩]) ∧
    Fresh h (h ++ [⟨.row 5 1, Go.Abs.bytes (a :: b :: c :: l)⟩]) (.sl h.length 0 (a :: b :: c :: l).length (a :: b :: c :: l).length) (a :: b :: c :: l) := by
  refine ⟨?_, copy_fresh h (a :: b :: c :: l)⟩
  have h1 := srcOf_row hy
  have h2 : l.length ≠ 0 := by simpa using hne
  simp only [appA, h1]
  rw [if_pos ⟨h2, rfl, by omega⟩]
  have : 3 + l.length = l.length + 3 := by omega
  simp [this, Go.Abs.bytes]

abbrev envE (p : Nat) (f : List UInt8) (y : SV) : Env := [(1, [.sc (.ptr p 0 15)]), (4, [.sc (.str f)]), (5, [.sc y])]
structure EnS (e : Env) (p : Nat) (f : List UInt8) (y : SV) : Prop where
  g1 : e.get 1 = [.sc (.ptr p 0 15)]
  g4 : e.get 4 = [.sc (.str f)]
  g5 : e.get 5 = [.sc y]
theorem EnS.of (p : Nat) (f : List UInt8) (y : SV) : EnS (envE p f y) p f y := ⟨rfl, rfl, rfl⟩
def optF (m : Ms) (j : Nat) : List UInt8 := if flM m.k j then layF m j else []

section
variable {hb g : Heap} {p : Nat} {m : Ms} {xe xd y : SV} {l : List UInt8}

theorem en_head (hp : hb[p]? = some ⟨.var, m.cells xe xd⟩) (N : MsN m) : ∃ g y, runE F O (sqh (sqd 3 M.a28.body)) [(1, [.sc (.ptr p 0 15)]), (4, [.sc (.str (ofM m.k))])] hb = some (.normal, envE p (ofM m.k) y, g) ∧
    Fresh hb g y (UInt8.ofNat (m.k % 256).toNat :: UInt8.ofNat (m.f % 256).toNat :: UInt8.ofNat (m.t % 256).toNat :: numB m.term) := by
  obtain ⟨b0, hb0⟩ : ∃ b, b = UInt8.ofNat (m.k % 256).toNat := ⟨_, rfl⟩
  obtain ⟨b1, hb1⟩ : ∃ b, b = UInt8.ofNat (m.f % 256).toNat := ⟨_, rfl⟩
  obtain ⟨b2, hb2⟩ : ∃ b, b = UInt8.ofNat (m.t % 256).toNat := ⟨_, rfl⟩
  have w0 := byte_of m.k
  have w1 := byte_of m.f
  have w2 := byte_of m.t
  rw [← hb0] at w0
  rw [← hb1] at w1
  rw [← hb2] at w2
  rw [← hb0, ← hb1, ← hb2]
  have nt := numB_le N.term
  obtain ⟨g1, y1, e1, f1⟩ := spec65 hb N.term
  obtain ⟨a1, f2⟩ := imm_app3 f1.row (numB_ne _) (by simp [lim]; omega) b0 b1 b2
  have ff : Fresh hb _ _ (b0 :: b1 :: b2 :: numB m.term) := f2.after f1.mod
  have x1 := f1.mod.get hp fun h => h
  have x2 := ff.mod.get hp fun h => h
  generalize g1 ++ [⟨.row 5 1, Go.Abs.bytes (b0 :: b1 :: b2 :: numB m.term)⟩] = g2 at *
  generalize SV.sl g1.length 0 (b0 :: b1 :: b2 :: numB m.term).length (b0 :: b1 :: b2 :: numB m.term).length = y2 at *
  refine ⟨g2, y2, runM fun R RO RD RT E => ?_, ff⟩
  have cl : (m.cells xe xd).length = 15 := rfl
  have c0 : ∀ hh, (m.cells xe xd)[0]'hh = .int .i64 m.k := fun _ => rfl
  have c1 : ∀ hh, (m.cells xe xd)[1]'hh = .int .i64 m.f := fun _ => rfl
  have c2 : ∀ hh, (m.cells xe xd)[2]'hh = .int .i64 m.t := fun _ => rfl
  have c3 : ∀ hh, (m.cells xe xd)[3]'hh = .int .u64 m.term := fun _ => rfl
  clear ff f1 f2
  generalize m.cells xe xd = cs at *
  generalize ofM m.k = o at *
  simp [M.a28, sqd, sqh, E.eqs, fldA, freshB, loadA, hp, x1, x2, cl, c0, c1, c2, c3, w0, w1, w2, e1, a1]

theorem len_o (k : Int) : (ofM k).length < 1000 := by have := ofM_len k; omega

theorem en_put5 {e : Env} (s : EnS e p (ofM m.k) y) (hp : hb[p]? = some ⟨.var, m.cells xe xd⟩) (N : MsN m) (f : Fresh hb g y l) (hne : l ≠ []) (hl : l.length ≤ 2 ^ 30) : ∃ g' y', runE F O (sqh (sqd 4 M.a28.body)) e g = some (.normal, envE p (ofM m.k) y', g') ∧ Fresh hb g' y' (l ++ optF m 1) := by
  obtain ⟨g', y', q, st⟩ := spec66 f.own hne hl (len_o m.k) (w := m_index) N.index
  rw [hasM_index] at st
  refine ⟨g', y', runM fun R RO RD RT E => ?_, f.app st⟩
  have x1 := f.mod.get hp fun h => h
  obtain ⟨s1, s4, s5⟩ := s
  have cl : (m.cells xe xd).length = 15 := rfl
  have c4 : ∀ hh, (m.cells xe xd)[4]'hh = .int .u64 m.index := fun _ => rfl
  clear f st
  generalize m.cells xe xd = cs at *
  generalize ofM m.k = o at *
  simp [M.a28, sqd, sqh, E.eqs, s1, s4, s5, fldA, freshB, loadA, x1, cl, c4, q]
theorem en_put6 {e : Env} (s : EnS e p (ofM m.k) y) (hp : hb[p]? = some ⟨.var, m.cells xe xd⟩) (N : MsN m) (f : Fresh hb g y l) (hne : l ≠ []) (hl : l.length ≤ 2 ^ 30) : ∃ g' y', runE F O (sqh (sqd 5 M.a28.body)) e g = some (.normal, envE p (ofM m.k) y', g') ∧ Fresh hb g' y' (l ++ optF m 2) := by
  obtain ⟨g', y', q, st⟩ := spec66 f.own hne hl (len_o m.k) (w := m_logterm) N.lt
  rw [hasM_logterm] at st
  refine ⟨g', y', runM fun R RO RD RT E => ?_, f.app st⟩
  have x1 := f.mod.get hp fun h => h
  obtain ⟨s1, s4, s5⟩ := s
  have cl : (m.cells xe xd).length = 15 := rfl
  have c4 : ∀ hh, (m.cells xe xd)[5]'hh = .int .u64 m.lt := fun _ => rfl
  clear f st
  generalize m.cells xe xd = cs at *
  generalize ofM m.k = o at *
  simp [M.a28, sqd, sqh, E.eqs, s1, s4, s5, fldA, freshB, loadA, x1, cl, c4, q]
theorem en_put7 {e : Env} (s : EnS e p (ofM m.k) y) (hp : hb[p]? = some ⟨.var, m.cells xe xd⟩) (N : MsN m) (f : Fresh hb g y l) (hne : l ≠ []) (hl : l.length ≤ 2 ^ 30) : ∃ g' y', runE F O (sqh (sqd 6 M.a28.body)) e g = some (.normal, envE p (ofM m.k) y', g') ∧ Fresh hb g' y' (l ++ optF m 3) := by
  obtain ⟨g', y', q, st⟩ := spec66 f.own hne hl (len_o m.k) (w := m_commit) N.cm
  rw [hasM_commit] at st
  refine ⟨g', y', runM fun R RO RD RT E => ?_, f.app st⟩
  have x1 := f.mod.get hp fun h => h
  obtain ⟨s1, s4, s5⟩ := s
  have cl : (m.cells xe xd).length = 15 := rfl
  have c4 : ∀ hh, (m.cells xe xd)[7]'hh = .int .u64 m.cm := fun _ => rfl
  clear f st
  generalize m.cells xe xd = cs at *
  generalize ofM m.k = o at *
  simp [M.a28, sqd, sqh, E.eqs, s1, s4, s5, fldA, freshB, loadA, x1, cl, c4, q]
theorem en_put14 {e : Env} (s : EnS e p (ofM m.k) y) (hp : hb[p]? = some ⟨.var, m.cells xe xd⟩) (ok : LayOk m) (f : Fresh hb g y l) (hne : l ≠ []) (hl : l.length ≤ 2 ^ 30) : ∃ g' y', runE F O (sqh (sqd 10 M.a28.body)) e g = some (.normal, envE p (ofM m.k) y', g') ∧ Fresh hb g' y' (l ++ optF m 6) := by
  have ho := ok.off
  obtain ⟨n, hn⟩ : ∃ n : Nat, m.off = n := ⟨m.off.toNat, by omega⟩
  obtain ⟨g', y', q, st⟩ := spec66 f.own hne hl (len_o m.k) (w := m_offset) (n := n) (by omega)
  rw [hasM_offset] at st
  have wr : IntKind.u64.wrap (n : Int) = n := wu64 (by omega) (by omega)
  refine ⟨g', y', runM fun R RO RD RT E => ?_, ?_⟩
  · have x1 := f.mod.get hp fun h => h
    obtain ⟨s1, s4, s5⟩ := s
    have cl : (m.cells xe xd).length = 15 := rfl
    have c4 : ∀ hh, (m.cells xe xd)[12]'hh = .int .i64 m.off := fun _ => rfl
    rw [hn] at c4
    clear f st
    generalize m.cells xe xd = cs at *
    generalize ofM m.k = o at *
    simp [M.a28, sqd, sqh, E.eqs, s1, s4, s5, fldA, freshB, loadA, x1, cl, c4, wr, q]
  · have e : optF m 6 = if flM m.k 6 then numB n else [] := by unfold optF layF; rw [hn]; rfl
    rw [e]
    exact f.app st

set_option maxHeartbeats 1000000 in
theorem ent_loop (hp : hb[p]? = some ⟨.var, m.cells xe xd⟩) (hE : EsAt hb xe m.es) (ok : LayOk m) {f : List UInt8} : ∀ (n k : Nat) (H : Heap) (y : SV) (l : List UInt8) (e : Env), k + n = m.es.length → Fresh hb H y l → l.length + 200 * n ≤ 2 ^ 30 → e.get 1 = [.sc (.ptr p 0 15)] → e.get 4 = [.sc (.str f)] → e.get 5 = [.sc y] → e.get 6 = [.sc (.int .i64 k)] →
    ∃ (H' : Heap) (y' : SV) (e' : Env), loopE F O (.loop [1, 4, 5, 6] M.b28_0) e H = some (.exit 0, e', H') ∧ e'.get 1 = [.sc (.ptr p 0 15)] ∧ e'.get 4 = [.sc (.str f)] ∧ e'.get 5 = [.sc y'] ∧ Fresh hb H' y' (l ++ layEs ((m.es.drop k).map (·.1)))
  | 0, k, H, y, l, e, hk, fr, hl, e1, e4, e5, e6 => by
    have hd : m.es.drop k = [] := List.drop_eq_nil_of_le (by omega)
    have c2 : ¬ k < m.es.length := by omega
    have bp := fr.mod.get hp fun h => h
    have cl : (m.cells xe xd).length = 15 := rfl
    have c6 : ∀ hh, (m.cells xe xd)[6]'hh = xe := fun _ => rfl
    have ln := lenA_row (hE.mod fr.mod).row
    refine ⟨H, y, [(1, [.sc (.ptr p 0 15)]), (4, [.sc (.str f)]), (5, [.sc y]), (6, [.sc (.int .i64 k)]), (57, [.sc (.bool false)])], exitM fun R RO RD RT E => ?_, rfl, rfl, rfl, by rw [hd]; simpa [layEs] using fr⟩
    clear fr
    generalize m.cells xe xd = cs at *
    simp [M.b28_0, E.eqs, e1, e4, e5, e6, c2, fldA, freshB, loadA, bp, cl, c6, ln]
  | n + 1, k, H, y, l, e, hk, fr, hl, e1, e4, e5, e6 => by
    have hlt : k < m.es.length := by omega
    obtain ⟨z, hz⟩ : ∃ z, m.es[k]? = some z := ⟨_, List.getElem?_eq_getElem hlt⟩
    have hd : m.es.drop k = z :: m.es.drop (k + 1) := by
      rw [List.drop_eq_getElem_cons hlt]
      congr 1
      rw [List.getElem?_eq_getElem hlt] at hz
      injection hz
    have hzm := List.mem_of_getElem? hz
    have hEH := hE.mod fr.mod
    have bp := fr.mod.get hp fun h => h
    have cl : (m.cells xe xd).length = 15 := rfl
    have c6 : ∀ hh, (m.cells xe xd)[6]'hh = xe := fun _ => rfl
    have ln := lenA_row hEH.row
    have ld := loadA_ent hEH.row hz
    have ix := ixsA_row hEH.row hlt
    have trm := hE.trm z hzm
    have hle := entL_le (ok.right z hzm) trm.1 trm.2
    obtain ⟨H1, y1, q1, f1⟩ := spec41 (kind := z.1.kind) (conf := z.1.conf) (hEH.dat z hzm) trm.1 trm.2
    have q1 : call 41 [[.agg (z.1.c z.2)]] H = some ([.sc y1, .sc (.int .i64 (entE z.1.kind z.1.term z.1.index z.1.T z.1.conf))], H1) := q1
    obtain ⟨H2, y2, q2, f2⟩ := spec67 f1.row (by omega)
    have nl := numB_le (n := (entL z.1.kind z.1.term z.1.index z.1.T z.1.conf).length) (by omega)
    have fr2 := (fr.pass f1.mod).pass f2.mod
    obtain ⟨a3, so3⟩ := own_app fr2.own (srcOf_row f2.row) (by simp [lim]; omega)
    have fr3 := fr2.app so3
    have e3 : (numB (entL z.1.kind z.1.term z.1.index z.1.T z.1.conf).length ++ entL z.1.kind z.1.term z.1.index z.1.T z.1.conf) = layE z.1 := rfl
    have hle2 := layE_le (ok.right z hzm) trm.1 trm.2
    rw [e3] at a3 fr3
    generalize appV H2 y 1 (layE z.1).length = y3 at *
    generalize appH H2 y 5 1 (layE z.1).length (Go.Abs.bytes (layE z.1)) = H3 at *
    obtain ⟨H', y', e', lo, g1, g4, g5, frf⟩ := ent_loop hp hE ok n (k + 1) H3 y3 (l ++ layE z.1) [(1, [.sc (.ptr p 0 15)]), (4, [.sc (.str f)]), (5, [.sc y3]), (6, [.sc (.int .i64 ((k + 1 : Nat) : Int))])] (by omega) fr3 (by simp; omega) rfl rfl rfl rfl
    refine ⟨H', y', e', stepM (fun R RO RD RT E => ?_) lo, g1, g4, g5, by rw [hd, List.map_cons, layEs, ← List.append_assoc]; exact frf⟩
    clear lo frf fr fr2 fr3 f1 f2 so3 hE hEH
    have := ok.es4
    have w1 : IntKind.i64.wrap ((k : Int) + 1) = (k : Int) + 1 := wi64 (by omega) (by omega)
    have l6 : loadA H false 1 [.sc (.ptr p 6 15)] = some ([.sc xe], H) := by simp [loadA, bp, cl, c6]
    generalize z.1.c z.2 = zc at *
    generalize m.cells xe xd = cs at *
    simp [M.b28_0, E.eqs, e1, e4, e5, e6, hlt, fldA, freshB, bp, cl, l6, ln, ix, ld, q1, q2, a3, w1]

theorem en_ent (hp : hb[p]? = some ⟨.var, m.cells xe xd⟩) (a : MsAt hb m xe xd) (ok : LayOk m) (f : Fresh hb g y l) (hl : l.length ≤ 2 ^ 29) : ∃ g' y' e', runE F O (sqd 1 (sqh (sqd 7 M.a28.body))) [(1, [.sc (.ptr p 0 15)]), (4, [.sc (.str (ofM m.k))]), (5, [.sc y]), (45, [.sc (.bool (flM m.k 9))])] g = some (.normal, e', g') ∧ EnS e' p (ofM m.k) y' ∧ Fresh hb g' y' (l ++ optF m 9) := by
  unfold optF
  cases hf : flM m.k 9
  · refine ⟨g, y, [(1, [.sc (.ptr p 0 15)]), (4, [.sc (.str (ofM m.k))]), (5, [.sc y]), (45, [.sc (.bool false)])], runM fun R RO RD RT E => ?_, ⟨rfl, rfl, rfl⟩, by simpa using f⟩
    generalize ofM m.k = o at *
    simp [M.a28, sqd, sqh, E.eqs]
  · have h4 := ok.es4
    have x1 := f.mod.get hp fun h => h
    have cl : (m.cells xe xd).length = 15 := rfl
    have c6 : ∀ hh, (m.cells xe xd)[6]'hh = xe := fun _ => rfl
    have ln := lenA_row (a.mod f.mod).es.row
    obtain ⟨g1, y1, e1, f1⟩ := spec65 g (n := m.es.length) (by omega)
    have nl := numB_le (n := m.es.length) (by omega)
    have wr : IntKind.u64.wrap (m.es.length : Int) = m.es.length := wu64 (by omega) (by omega)
    have fr1 := f.pass f1.mod
    obtain ⟨a2, so2⟩ := own_app fr1.own (srcOf_row f1.row) (by simp [lim]; omega)
    have fr2 := fr1.app so2
    generalize appV g1 y 1 (numB m.es.length).length = y2 at *
    generalize appH g1 y 5 1 (numB m.es.length).length (Go.Abs.bytes (numB m.es.length)) = g2 at *
    obtain ⟨g3, y3, e', lo, q1, q4, q5, fr3⟩ := ent_loop hp a.es ok (f := ofM m.k) m.es.length 0 g2 y2 (l ++ numB m.es.length) [(1, [.sc (.ptr p 0 15)]), (4, [.sc (.str (ofM m.k))]), (5, [.sc y2]), (6, [.sc (.int .i64 0)])] (by omega) fr2 (by simp; omega) rfl rfl rfl rfl
    have lo := loop_run lo
    refine ⟨g3, y3, envE p (ofM m.k) y3, runM fun R RO RD RT E => ?_, EnS.of _ _ _, ?_⟩
    · have lo := E.run lo
      clear f fr1 fr2 fr3 so2 f1 a
      generalize m.cells xe xd = cs at *
      generalize ofM m.k = o at *
      simp [M.a28, sqd, sqh, E.eqs, fldA, freshB, loadA, x1, cl, c6, ln, wr, e1, a2, lo, q1, q4, q5]
    · rw [if_pos rfl]
      rw [List.drop_zero, List.append_assoc] at fr3
      exact fr3

theorem en_flag (b : Bool) (f : Fresh hb g y l) (hl : l.length ≤ 2 ^ 29) : ∃ g' y', appA g 5 1 1 (.sc y) (.imm 1 [.int .u8 (flagB b).toNat]) = some ([.sc y'], g') ∧ Fresh hb g' y' (l ++ [flagB b]) := by
  obtain ⟨a3, so3⟩ := own_app1 f.own (flagB b) (by simp [lim]; omega)
  exact ⟨_, _, a3, f.app so3⟩
theorem en_flag11 (hp : hb[p]? = some ⟨.var, m.cells xe xd⟩) (f : Fresh hb g y l) (hl : l.length ≤ 2 ^ 29) : ∃ g' y' e', runE F O (sqd 1 (sqh (sqd 8 M.a28.body))) [(1, [.sc (.ptr p 0 15)]), (4, [.sc (.str (ofM m.k))]), (5, [.sc y]), (74, [.sc (.bool (flM m.k 4))])] g = some (.normal, e', g') ∧ EnS e' p (ofM m.k) y' ∧ Fresh hb g' y' (l ++ optF m 4) := by
  unfold optF
  cases hf : flM m.k 4
  · refine ⟨g, y, [(1, [.sc (.ptr p 0 15)]), (4, [.sc (.str (ofM m.k))]), (5, [.sc y]), (74, [.sc (.bool false)])], runM fun R RO RD RT E => ?_, ⟨rfl, rfl, rfl⟩, by simpa using f⟩
    generalize ofM m.k = o at *
    simp [M.a28, sqd, sqh, E.eqs]
  · have x1 := f.mod.get hp fun h => h
    have cl : (m.cells xe xd).length = 15 := rfl
    have c6 : ∀ hh, (m.cells xe xd)[8]'hh = .bool m.rf := fun _ => rfl
    have qf := spec68 g m.rf
    obtain ⟨g1, y1, a1, f1⟩ := en_flag m.rf f hl
    refine ⟨g1, y1, envE p (ofM m.k) y1, runM fun R RO RD RT E => ?_, EnS.of _ _ _, by rw [if_pos rfl]; unfold layF; exact f1⟩
    clear f f1
    generalize m.cells xe xd = cs at *
    generalize ofM m.k = o at *
    simp [M.a28, sqd, sqh, E.eqs, fldA, freshB, loadA, x1, cl, c6, qf, a1]

theorem en_flag16 (hp : hb[p]? = some ⟨.var, m.cells xe xd⟩) (f : Fresh hb g y l) (hl : l.length ≤ 2 ^ 29) : ∃ g' y' e', runE F O (sqd 1 (sqh (sqd 11 M.a28.body))) [(1, [.sc (.ptr p 0 15)]), (4, [.sc (.str (ofM m.k))]), (5, [.sc y]), (107, [.sc (.bool (flM m.k 7))])] g = some (.normal, e', g') ∧ EnS e' p (ofM m.k) y' ∧ Fresh hb g' y' (l ++ optF m 7) := by
  unfold optF
  cases hf : flM m.k 7
  · refine ⟨g, y, [(1, [.sc (.ptr p 0 15)]), (4, [.sc (.str (ofM m.k))]), (5, [.sc y]), (107, [.sc (.bool false)])], runM fun R RO RD RT E => ?_, ⟨rfl, rfl, rfl⟩, by simpa using f⟩
    generalize ofM m.k = o at *
    simp [M.a28, sqd, sqh, E.eqs]
  · have x1 := f.mod.get hp fun h => h
    have cl : (m.cells xe xd).length = 15 := rfl
    have c6 : ∀ hh, (m.cells xe xd)[14]'hh = .bool m.la := fun _ => rfl
    have qf := spec68 g m.la
    obtain ⟨g1, y1, a1, f1⟩ := en_flag m.la f hl
    refine ⟨g1, y1, envE p (ofM m.k) y1, runM fun R RO RD RT E => ?_, EnS.of _ _ _, by rw [if_pos rfl]; unfold layF; exact f1⟩
    clear f f1
    generalize m.cells xe xd = cs at *
    generalize ofM m.k = o at *
    simp [M.a28, sqd, sqh, E.eqs, fldA, freshB, loadA, x1, cl, c6, qf, a1]

theorem en_base (hp : hb[p]? = some ⟨.var, m.cells xe xd⟩) (N : MsN m) (f : Fresh hb g y l) (hl : l.length ≤ 2 ^ 29) : ∃ g' y' e', runE F O (sqd 1 (sqh (sqd 9 M.a28.body))) [(1, [.sc (.ptr p 0 15)]), (4, [.sc (.str (ofM m.k))]), (5, [.sc y]), (82, [.sc (.bool (flM m.k 5))])] g = some (.normal, e', g') ∧ EnS e' p (ofM m.k) y' ∧ Fresh hb g' y' (l ++ optF m 5) := by
  unfold optF
  cases hf : flM m.k 5
  · refine ⟨g, y, [(1, [.sc (.ptr p 0 15)]), (4, [.sc (.str (ofM m.k))]), (5, [.sc y]), (82, [.sc (.bool false)])], runM fun R RO RD RT E => ?_, ⟨rfl, rfl, rfl⟩, by simpa using f⟩
    generalize ofM m.k = o at *
    simp [M.a28, sqd, sqh, E.eqs]
  · have cl : (m.cells xe xd).length = 15 := rfl
    have c9 : ∀ hh, (m.cells xe xd)[9]'hh = .int .u64 m.bi := fun _ => rfl
    have c10 : ∀ hh, (m.cells xe xd)[10]'hh = .int .u64 m.bt := fun _ => rfl
    have c11 : ∀ hh, (m.cells xe xd)[11]'hh = .int .i64 m.bc := fun _ => rfl
    have n1 := numB_le N.bi
    have n2 := numB_le N.bt
    obtain ⟨b, hbd⟩ : ∃ b, b = UInt8.ofNat (m.bc % 256).toNat := ⟨_, rfl⟩
    have hw := byte_of m.bc
    rw [← hbd] at hw
    have x0 := f.mod.get hp fun h => h
    obtain ⟨g1, y1, e1, f1⟩ := spec65 g N.bi
    have fr1 := f.pass f1.mod
    have x1 := fr1.mod.get hp fun h => h
    obtain ⟨a2, so2⟩ := own_app fr1.own (srcOf_row f1.row) (by simp [lim]; omega)
    have fr2 := fr1.app so2
    have x2 := fr2.mod.get hp fun h => h
    generalize appV g1 y 1 (numB m.bi).length = y2 at *
    generalize appH g1 y 5 1 (numB m.bi).length (Go.Abs.bytes (numB m.bi)) = g2 at *
    obtain ⟨g3, y3, e3, f3⟩ := spec65 g2 N.bt
    have fr3 := fr2.pass f3.mod
    have x3 := fr3.mod.get hp fun h => h
    obtain ⟨a4, so4⟩ := own_app fr3.own (srcOf_row f3.row) (by simp [lim]; omega)
    have fr4 := fr3.app so4
    have x4 := fr4.mod.get hp fun h => h
    generalize appV g3 y2 1 (numB m.bt).length = y4 at *
    generalize appH g3 y2 5 1 (numB m.bt).length (Go.Abs.bytes (numB m.bt)) = g4 at *
    obtain ⟨a5, so5⟩ := own_app1 fr4.own b (by simp [lim]; omega)
    have fr5 := fr4.app so5
    have x5 := fr5.mod.get hp fun h => h
    generalize appV g4 y4 1 1 = y5 at *
    generalize appH g4 y4 5 1 1 [.int .u8 b.toNat] = g5 at *
    refine ⟨g5, y5, envE p (ofM m.k) y5, runM fun R RO RD RT E => ?_, EnS.of _ _ _, ?_⟩
    · clear f f1 fr1 fr2 f3 fr3 fr4 fr5 so2 so4 so5
      generalize m.cells xe xd = cs at *
      generalize ofM m.k = o at *
      simp [M.a28, sqd, sqh, E.eqs, fldA, freshB, loadA, x0, x1, x2, x3, x4, x5, cl, c9, c10, c11, hw, e1, a2, e3, a4, a5]
    · rw [if_pos rfl]
      unfold layF
      rw [← hbd]
      simpa using fr5

theorem en_data (hp : hb[p]? = some ⟨.var, m.cells xe xd⟩) (a : MsAt hb m xe xd) (f : Fresh hb g y l) (hl : l.length ≤ 2 ^ 29) : ∃ g' y' e', runE F O (sqd 1 (sqh (sqd 12 M.a28.body))) [(1, [.sc (.ptr p 0 15)]), (5, [.sc y]), (115, [.sc (.bool (flM m.k 8))])] g = some (.normal, e', g') ∧ e'.get 5 = [.sc y'] ∧ Fresh hb g' y' (l ++ optF m 8) := by
  unfold optF
  cases hf : flM m.k 8
  · refine ⟨g, y, [(1, [.sc (.ptr p 0 15)]), (5, [.sc y]), (115, [.sc (.bool false)])], runM fun R RO RD RT E => ?_, rfl, by simpa using f⟩
    simp [M.a28, sqd, sqh, E.eqs]
  · have x1 := f.mod.get hp fun h => h
    have cl : (m.cells xe xd).length = 15 := rfl
    have c6 : ∀ hh, (m.cells xe xd)[13]'hh = xd := fun _ => rfl
    have ag := a.mod f.mod
    have := ag.nd
    obtain ⟨g1, y1, e1, f1⟩ := spec67 ag.dat (by omega)
    have nl := numB_le (n := m.D.length) (by omega)
    have fr1 := f.pass f1.mod
    obtain ⟨a2, so2⟩ := own_app fr1.own (srcOf_row f1.row) (by simp [lim]; omega)
    have fr2 := fr1.app so2
    generalize appV g1 y 1 (numB m.D.length ++ m.D).length = y2 at *
    generalize appH g1 y 5 1 (numB m.D.length ++ m.D).length (Go.Abs.bytes (numB m.D.length ++ m.D)) = g2 at *
    refine ⟨g2, y2, [(5, [.sc y2])], runM fun R RO RD RT E => ?_, rfl, by rw [if_pos rfl]; unfold layF; exact fr2⟩
    clear f f1 fr1 fr2 so2 a ag
    generalize m.cells xe xd = cs at *
    simp [M.a28, sqd, sqh, E.eqs, fldA, freshB, loadA, x1, cl, c6, e1, a2]

theorem en_has8 {e : Env} (s : EnS e p (ofM m.k) y) : runE F O (sqh (sqh (sqd 7 M.a28.body))) e g = some (.normal, [(1, [.sc (.ptr p 0 15)]), (4, [.sc (.str (ofM m.k))]), (5, [.sc y]), (45, [.sc (.bool (flM m.k 9))])], g) := by
  have q := spec56 g (w := m_entries) (len_o m.k)
  rw [hasM_entries] at q
  obtain ⟨s1, s4, s5⟩ := s
  refine runM fun R RO RD RT E => ?_
  generalize ofM m.k = o at *
  simp [M.a28, sqd, sqh, E.eqs, s1, s4, s5, q]
theorem en_has10 {e : Env} (s : EnS e p (ofM m.k) y) : runE F O (sqh (sqh (sqd 8 M.a28.body))) e g = some (.normal, [(1, [.sc (.ptr p 0 15)]), (4, [.sc (.str (ofM m.k))]), (5, [.sc y]), (74, [.sc (.bool (flM m.k 4))])], g) := by
  have q := spec56 g (w := m_refused) (len_o m.k)
  rw [hasM_refused] at q
  obtain ⟨s1, s4, s5⟩ := s
  refine runM fun R RO RD RT E => ?_
  generalize ofM m.k = o at *
  simp [M.a28, sqd, sqh, E.eqs, s1, s4, s5, q]
theorem en_has12 {e : Env} (s : EnS e p (ofM m.k) y) : runE F O (sqh (sqh (sqd 9 M.a28.body))) e g = some (.normal, [(1, [.sc (.ptr p 0 15)]), (4, [.sc (.str (ofM m.k))]), (5, [.sc y]), (82, [.sc (.bool (flM m.k 5))])], g) := by
  have q := spec56 g (w := m_base) (len_o m.k)
  rw [hasM_base] at q
  obtain ⟨s1, s4, s5⟩ := s
  refine runM fun R RO RD RT E => ?_
  generalize ofM m.k = o at *
  simp [M.a28, sqd, sqh, E.eqs, s1, s4, s5, q]
theorem en_has15 {e : Env} (s : EnS e p (ofM m.k) y) : runE F O (sqh (sqh (sqd 11 M.a28.body))) e g = some (.normal, [(1, [.sc (.ptr p 0 15)]), (4, [.sc (.str (ofM m.k))]), (5, [.sc y]), (107, [.sc (.bool (flM m.k 7))])], g) := by
  have q := spec56 g (w := m_last) (len_o m.k)
  rw [hasM_last] at q
  obtain ⟨s1, s4, s5⟩ := s
  refine runM fun R RO RD RT E => ?_
  generalize ofM m.k = o at *
  simp [M.a28, sqd, sqh, E.eqs, s1, s4, s5, q]
theorem en_has17 {e : Env} (s : EnS e p (ofM m.k) y) : runE F O (sqh (sqh (sqd 12 M.a28.body))) e g = some (.normal, [(1, [.sc (.ptr p 0 15)]), (5, [.sc y]), (115, [.sc (.bool (flM m.k 8))])], g) := by
  have q := spec56 g (w := m_data) (len_o m.k)
  rw [hasM_data] at q
  obtain ⟨s1, s4, s5⟩ := s
  refine runM fun R RO RD RT E => ?_
  generalize ofM m.k = o at *
  simp [M.a28, sqd, sqh, E.eqs, s1, s4, s5, q]

theorem fl9 {k : Int} (h : flM k 9 = true) : flM k 4 = false ∧ flM k 5 = false ∧ flM k 6 = false ∧ flM k 7 = false ∧ flM k 8 = false := by
  rcases kindsM k with rfl | rfl | rfl | rfl | rfl | rfl | hk
  case inr.inr.inr.inr.inr.inr => exact absurd h (by unfold flM; rw [maskM_none hk]; decide)
  all_goals first | exact absurd h (by decide) | decide

def headB (m : Ms) : List UInt8 := UInt8.ofNat (m.k % 256).toNat :: UInt8.ofNat (m.f % 256).toNat :: UInt8.ofNat (m.t % 256).toNat :: numB m.term
theorem refB_same (hk : maskM m.k ≠ 0) : headB m ++ optF m 1 ++ optF m 2 ++ optF m 3 ++ optF m 9 ++ optF m 4 ++ optF m 5 ++ optF m 6 ++ optF m 7 ++ optF m 8 = bodyM m := by
  have h0 := flM0 hk
  have e : bodyM m = headB m ++ optF m 1 ++ optF m 2 ++ optF m 3 ++ optF m 4 ++ optF m 5 ++ optF m 6 ++ optF m 7 ++ optF m 8 ++ optF m 9 := by
    unfold bodyM headB
    have : layFromM m 10 0 = optF m 0 ++ (optF m 1 ++ (optF m 2 ++ (optF m 3 ++ (optF m 4 ++ (optF m 5 ++ (optF m 6 ++ (optF m 7 ++ (optF m 8 ++ (optF m 9 ++ []))))))))) := rfl
    rw [this]
    have : optF m 0 = numB m.term := by unfold optF; rw [h0]; rfl
    rw [this]
    simp
  rw [e]
  cases h9 : flM m.k 9
  · have : optF m 9 = [] := by unfold optF; rw [h9]; rfl
    rw [this]
    simp
  · obtain ⟨h4, h5, h6, h7, h8⟩ := fl9 h9
    have e4 : optF m 4 = [] := by unfold optF; rw [h4]; rfl
    have e5 : optF m 5 = [] := by unfold optF; rw [h5]; rfl
    have e6 : optF m 6 = [] := by unfold optF; rw [h6]; rfl
    have e7 : optF m 7 = [] := by unfold optF; rw [h7]; rfl
    have e8 : optF m 8 = [] := by unfold optF; rw [h8]; rfl
    rw [e4, e5, e6, e7, e8]
    simp
theorem optF_le (ok : LayOk m) (N : MsN m) (trm : ∀ z ∈ m.es, z.1.term < 18446744073709551616 ∧ z.1.index < 18446744073709551616) (j : Nat) : (optF m j).length ≤ 700 := by
  have := layF_le ok N trm j
  unfold optF
  split <;> simp
  omega
theorem ask1_mask (h : rightM m = true) : maskM m.k ≠ 0 := by
  intro h0
  unfold rightM headM at h
  simp [h0] at h

set_option maxHeartbeats 1000000 in
theorem spec28 {h : Heap} (a : MsAt h m xe xd) (N : MsN m) :
    ∃ h' y, call 28 [[.agg (m.cells xe xd)]] h = some ([.sc y, .sc (.int .i64 (errM m))], h') ∧ Fresh h h' y (encM m) := by
  obtain ⟨hb, hhb⟩ : ∃ hb : Heap, hb = h ++ [⟨.var, m.cells xe xd⟩] := ⟨_, rfl⟩
  have bb : hb[h.length]? = some ⟨.var, m.cells xe xd⟩ := by rw [hhb]; simp
  have mb : Mod (fun _ => False) h hb := by rw [hhb]; exact Mod.app _ _ _
  have ab := a.mod mb
  have qr := spec25 ab
  have hlen : (m.cells xe xd).length = 15 := rfl
  have ht : (m.cells xe xd).take 15 = m.cells xe xd := rfl
  have c0 : ∀ hh, (m.cells xe xd)[0]'hh = .int .i64 m.k := fun _ => rfl
  unfold encM errM
  cases hc : rightM m
  · rw [hc] at qr
    have tr : trim h hb [.sc .nils, .sc (.int .i64 1)] = h := by rw [hhb]; exact trim_pure rfl
    refine ⟨_, .nils, callX (hh := h) rfl (by rfl : F 28 = some M.a28) (fun R RO RD RT E => ?_), Fresh.nils (Mod.refl _ _)⟩
    clear a ab
    generalize m.cells xe xd = cs at *
    simp [M.a28, E.eqs, ← hhb, bb, fldA, freshB, loadA, hlen, ht, qr, tr]
  · rw [hc] at qr
    have ok := right_ok hc
    have ol := optF_le ok N a.es.trm
    have nt := numB_le N.term
    have hhead : (headB m).length ≤ 20 := by simp [headB]; omega
    obtain ⟨g0, y0, r4, f0⟩ := en_head bb N
    have f0 : Fresh hb g0 y0 (headB m) := f0
    have hne : headB m ≠ [] := by simp [headB]
    have ne : ∀ {a b : List UInt8}, a ≠ [] → a ++ b ≠ [] := fun h => by simp [h]
    obtain ⟨g1, y1, r5, f1⟩ := en_put5 (EnS.of _ _ _) bb N f0 hne (by omega)
    have o1 := ol 1
    obtain ⟨g2, y2, r6, f2⟩ := en_put6 (EnS.of _ _ _) bb N f1 (ne hne) (by simp; omega)
    have o2 := ol 2
    obtain ⟨g3, y3, r7, f3⟩ := en_put7 (EnS.of _ _ _) bb N f2 (ne (ne hne)) (by simp; omega)
    have o3 := ol 3
    have r8 := en_has8 (m := m) (g := g3) (EnS.of h.length (ofM m.k) y3)
    obtain ⟨g4, y4, e4, r9, s4, f4⟩ := en_ent bb ab ok f3 (by simp; omega)
    have o9 := ol 9
    have r10 := en_has10 (g := g4) s4
    obtain ⟨g5, y5, e5, r11, s5, f5⟩ := en_flag11 bb f4 (by simp; omega)
    have o4 := ol 4
    have r12 := en_has12 (g := g5) s5
    obtain ⟨g6, y6, e6, r13, s6, f6⟩ := en_base bb N f5 (by simp; omega)
    have o5 := ol 5
    obtain ⟨g7, y7, r14, f7⟩ := en_put14 s6 bb ok f6 (ne (ne (ne (ne (ne (ne hne)))))) (by simp; omega)
    have o6 := ol 6
    have r15 := en_has15 (m := m) (g := g7) (EnS.of h.length (ofM m.k) y7)
    obtain ⟨g8, y8, e8, r16, s8, f8⟩ := en_flag16 bb f7 (by simp; omega)
    have o7 := ol 7
    have r17 := en_has17 (g := g8) s8
    obtain ⟨g9, y9, e9, r18, s9, f9⟩ := en_data bb ab f8 (by simp; omega)
    have o8 := ol 8
    rw [refB_same (ask1_mask hc)] at f9
    have hbl : (bodyM m).length ≤ 2 ^ 20 := by
      rw [← refB_same (ask1_mask hc)]
      simp
      omega
    obtain ⟨g10, y10, q10, f10⟩ := spec48 f9.row (by omega)
    have qo := spec54 hb m.k
    have fr : Fresh h g10 y10 (sealB (bodyM m)) := f10.after (mb.trans f9.mod fun _ _ h => h)
    refine ⟨_, y10, callX (hh := trim h g10 [.sc y10, .sc (.int .i64 0)]) rfl (by rfl : F 28 = some M.a28) (fun R RO RD RT E => ?_), fr.trim2 _⟩
    have r4 := E.run r4
    have r5 := E.run r5
    have r6 := E.run r6
    have r7 := E.run r7
    have r8 := E.run r8
    have r9 := E.run r9
    have r10 := E.run r10
    have r11 := E.run r11
    have r12 := E.run r12
    have r13 := E.run r13
    have r14 := E.run r14
    have r15 := E.run r15
    have r16 := E.run r16
    have r17 := E.run r17
    have r18 := E.run r18
    clear f0 f1 f2 f3 f4 f5 f6 f7 f8 f9 f10 fr a ab
    have top : ∀ r, R (sqd 13 M.a28.body) e9 g9 = r → R M.a28.body (envFrom 0 [[.agg (m.cells xe xd)]]) h = r := fun r hr => by
      refine seqM E (e1 := [(1, [.sc (.ptr h.length 0 15)])]) (h1 := hb) ?_ (seqM E (e1 := [(1, [.sc (.ptr h.length 0 15)]), (11, [.sc (.bool false)])]) (h1 := hb) ?_ (seqM E (e1 := [(1, [.sc (.ptr h.length 0 15)]), (4, [.sc (.str (ofM m.k))])]) (h1 := hb) ?_
        (seqM E r4 (seqM E r5 (seqM E r6 (seqM E r7 (seqM E (seqM E r8 r9) (seqM E (seqM E r10 r11) (seqM E (seqM E r12 r13) (seqM E r14 (seqM E (seqM E r15 r16) (seqM E (seqM E r17 r18) hr))))))))))))
      · generalize m.cells xe xd = cs at *
        simp [E.eqs, ← hhb, hlen]
      · generalize m.cells xe xd = cs at *
        simp [E.eqs, loadA, bb, hlen, ht, qr]
      · generalize m.cells xe xd = cs at *
        simp [E.eqs, fldA, freshB, loadA, bb, hlen, c0, qo]
    rw [top _ rfl]
    simp [M.a28, sqd, E.eqs, s9, q10]
end
end Go.Proofs.Ytoghoddofokekaa
