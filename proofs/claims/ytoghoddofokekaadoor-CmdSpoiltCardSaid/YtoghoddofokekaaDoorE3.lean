/- What the laws shape; a command encoded as the document says. -/
import Derived.Test.YtoghoddofokekaaDoorE2
set_option linter.unusedVariables false
set_option linter.unusedSimpArgs false
set_option maxRecDepth 100000
namespace Go.Proofs.YtoghoddofokekaaDoor
open Go.Abs

/-- what comes in, or a command that may be -/
theorem spec7 {c : Cm} (h : Heap) (is : Bool) (ok : c.Ok) (k1 : -9223372036854775808 ≤ c.k) (k2 : c.k < 9223372036854775808) (s1 : -9223372036854775808 ≤ c.sc) (s2 : c.sc < 9223372036854775808) (hx : c.x.length < 9223372036854775808) (hy : c.y.length < 9223372036854775808) :
    ∃ x : Cm, call 7 [[.agg c.cells], [.sc (.bool is)]] h = some ([.agg x.cells], h) ∧ (is = true → rightC x = true) ∧ x.Ok ∧ x.x.length < 9223372036854775808 ∧ x.y.length < 9223372036854775808 := by
  have ap : h ++ [⟨.var, c.cells⟩, ⟨.var, [.int .i64 0, .int .u64 0, .int .u64 0, .int .u64 0, .int .u64 0, .int .i64 0, .int .u64 0, .int .i64 0, .str [], .str []]⟩] = H2 h c := rfl
  have ld : loadA (H2 h c) true 10 [.sc (.ptr h.length 0 10)] = some ([.agg c.cells], H2 h c) := by simp [loadA, H2_a, Cm.cells]
  have st : ∀ x : Cm, storeA (H2 h c) 10 [.sc (.ptr (h.length + 1) 0 10)] [.agg x.cells] = some ([], h ++ [⟨.var, c.cells⟩, ⟨.var, x.cells⟩]) := fun x => by
    have e0 : (H2 h c)[h.length + 1]? = some ⟨.var, Cm.zero.cells⟩ := by simp [H2]
    have e1 : setCells Cm.zero.cells 0 x.cells = x.cells := rfl
    simp [storeA, e0]
    rw [show Cm.zero.cells.length = 10 from rfl, show x.cells.length = 10 from rfl, e1]
    simp [H2]
  have gz : ∀ x : Cm, (h ++ [⟨.var, c.cells⟩, ⟨.var, x.cells⟩])[h.length + 1]? = some (⟨.var, x.cells⟩ : Blk) := fun x => by simp
  have tr : ∀ x : Cm, trim h (h ++ [⟨.var, c.cells⟩, ⟨.var, x.cells⟩]) [.agg x.cells] = h := fun x => trim_pure rfl
  have hl : ∀ x : Cm, x.cells.length = 10 := fun x => rfl
  have ht : ∀ x : Cm, x.cells.take 10 = x.cells := fun x => rfl
  cases is
  · refine ⟨c, callX rfl (by rfl : F 7 = some M.a7) (fun R RO RD RT E => ?_), fun h => by simp at h, ok, hx, hy⟩
    have st := st c
    have gz := gz c
    have tr := tr c
    have hl := hl c
    have ht := ht c
    generalize hg : (h ++ [⟨.var, c.cells⟩, ⟨.var, c.cells⟩] : Heap) = g at *
    have hz : ∀ t : List SV, (h ++ [⟨.var, c.cells⟩, ⟨.var, t⟩] : Heap) = h ++ [⟨.var, c.cells⟩] ++ [⟨.var, t⟩] := fun t => by simp
    generalize H2 h c = g1 at *
    generalize c.cells = cs at *
    simp [M.a7, E.eqs, hl, ap, ld, st, gz, ht, tr]
  · obtain ⟨x, qx, rx, ox⟩ := spec16 (h := H2 h c) k1 k2 s1 s2
    have rl := right_len rx
    refine ⟨x, callX rfl (by rfl : F 7 = some M.a7) (fun R RO RD RT E => ?_), fun _ => rx, ox, by omega, by omega⟩
    have st := st x
    have gz := gz x
    have tr := tr x
    have hlc := hl c
    have hl := hl x
    have ht := ht x
    generalize hg : (h ++ [⟨.var, c.cells⟩, ⟨.var, x.cells⟩] : Heap) = g at *
    generalize H2 h c = g1 at *
    generalize c.cells = cs at *
    generalize x.cells = xs at *
    simp [M.a7, E.eqs, hlc, hl, ap, ld, qx, st, gz, ht, tr]

theorem Fresh.pass {h h1 h2 : Heap} {y : SV} {l : List UInt8} (a : Fresh h h1 y l) (m : Mod (fun _ => False) h1 h2) : Fresh h h2 y l :=
  ⟨a.own.mod m fun _ _ h => h, a.mod.trans m fun _ _ h => h, a.new⟩
theorem own_sl {h : Heap} {y : SV} {l : List UInt8} (hy : Own h y 5 1 l.length (Go.Abs.bytes l)) (hne : l ≠ []) : ∃ b n c, y = .sl b 0 n c := by
  rcases hy with ⟨_, h2, _⟩ | ⟨b, h1, _⟩
  · exact absurd (List.eq_nil_of_length_eq_zero h2) hne
  · exact ⟨b, _, _, h1⟩
theorem own_apps {h : Heap} {x : SV} {l : List UInt8} (hx : Own h x 5 1 l.length (Go.Abs.bytes l)) (hne : l ≠ []) (m : List UInt8) (hl : l.length + m.length ≤ lim) :
    appsA h 5 1 (.sc x) m = some ([.sc (appV h x 1 m.length)], appH h x 5 1 m.length (Go.Abs.bytes m)) ∧ OStep h x l (appH h x 5 1 m.length (Go.Abs.bytes m)) (appV h x 1 m.length) m := by
  have hi : srcOf h 1 (.imm m.length (Go.Abs.bytes m)) = some (m.length, Go.Abs.bytes m) := by simp [srcOf, bytes_length]
  obtain ⟨a1, st⟩ := own_app hx hi hl
  refine ⟨?_, st⟩
  rw [← a1]
  obtain ⟨b, n, c, rfl⟩ := own_sl hx hne
  simp only [appA, hi, appsA, Nat.mul_one]

/-- what stays in the slots -/
structure EnC (e : Env) (p : Nat) (f : List UInt8) (y : SV) : Prop where
  g1 : e.get 1 = [.sc (.ptr p 0 10)]
  g4 : e.get 4 = [.sc (.str f)]
  g5 : e.get 5 = [.sc y]
def optC (c : Cm) (j : Nat) : List UInt8 := if fl c.k j then layB c j else []

section
variable {hb g : Heap} {p : Nat} {c : Cm} {y : SV} {l : List UInt8}

theorem ld10 (hp : g[p]? = some ⟨.var, c.cells⟩) {j : Nat} {v : SV} (hv : c.cells[j]? = some v) : loadA g false 1 [.sc (.ptr p j 10)] = some ([.sc v], g) := by
  have hj := lt_of_get hv
  have hl : c.cells.length = 10 := rfl
  simp [loadA, hp, hl, hv]
  omega
theorem fl10 (hp : g[p]? = some ⟨.var, c.cells⟩) (k : Nat) : fldA g k [.sc (.ptr p 0 10)] = some ([.sc (.ptr p k 10)], g) := by
  have hl : c.cells.length = 10 := rfl
  simp [fldA, freshB, hp, hl]

theorem ec_head (hp : hb[p]? = some ⟨.var, c.cells⟩) (ok : c.Ok) {o : List UInt8} : ∃ g y e, runE F O (sqh (sqd 3 M.a12.body)) [(1, [.sc (.ptr p 0 10)]), (4, [.sc (.str o)])] hb = some (.normal, e, g) ∧ EnC e p o y ∧ Fresh hb g y (UInt8.ofNat (c.k % 256).toNat :: numB c.s) := by
  obtain ⟨b, hbd⟩ : ∃ b, b = UInt8.ofNat (c.k % 256).toNat := ⟨_, rfl⟩
  have hw := byte_of c.k
  rw [← hbd] at hw ⊢
  have n1 := numB_le ok.s
  obtain ⟨g1, y1, e1, f1⟩ := spec29 hb ok.s
  obtain ⟨a1, f2⟩ := imm_app f1.row (numB_ne _) (by simp [lim]; omega) b
  have ff : Fresh hb _ _ (b :: numB c.s) := f2.after f1.mod
  have x1 := f1.mod.get hp fun h => h
  have x2 := ff.mod.get hp fun h => h
  generalize g1 ++ [⟨.row 5 1, Go.Abs.bytes (b :: numB c.s)⟩] = g2 at *
  generalize SV.sl g1.length 0 (b :: numB c.s).length (b :: numB c.s).length = y2 at *
  refine ⟨g2, y2, [(1, [.sc (.ptr p 0 10)]), (4, [.sc (.str o)]), (5, [.sc y2])], runM fun R RO RD RT E => ?_, ⟨rfl, rfl, rfl⟩, ff⟩
  have l0 := ld10 hp (j := 0) rfl
  have l1 := ld10 hp (j := 1) rfl
  have l01 := ld10 x1 (j := 0) rfl
  have l02 := ld10 x2 (j := 0) rfl
  have p0 := fl10 hp
  have p1 := fl10 x1
  have p2 := fl10 x2
  clear f1 f2 ff x1 x2 hp
  simp [M.a12, sqd, sqh, E.eqs, l0, l1, l01, l02, p0, p1, p2, hw, e1, a1]

theorem ec_seq {e : Env} (s : EnC e p (ofT c.k) y) (hp : hb[p]? = some ⟨.var, c.cells⟩) (ok : c.Ok) (f : Fresh hb g y l) (hl : l.length ≤ 2 ^ 30) : ∃ g' y' e', runE F O (sqh (sqd 4 M.a12.body)) e g = some (.normal, e', g') ∧ EnC e' p (ofT c.k) y' ∧ Fresh hb g' y' (l ++ optC c 1) := by
  obtain ⟨s1, s4, s5⟩ := s
  have hlo : (ofT c.k).length < 1000 := by have := ofT_len c.k; omega
  have q1 := spec23 g (w := w_seq) hlo
  rw [has_seq] at q1
  have x0 := f.mod.get hp fun h => h
  unfold optC
  generalize ofT c.k = o at *
  cases hf : fl c.k 1
  · rw [hf] at q1
    refine ⟨g, y, [(1, [.sc (.ptr p 0 10)]), (4, [.sc (.str o)]), (5, [.sc y]), (21, [.sc (.bool false)])], runM fun R RO RD RT E => ?_, ⟨rfl, rfl, rfl⟩, by simpa using f⟩
    simp [M.a12, sqd, sqh, E.eqs, s1, s4, s5, q1]
  · rw [hf] at q1
    have n1 := numB_le ok.q
    obtain ⟨g1, y1, e1, f1⟩ := spec29 g ok.q
    have fr1 := f.pass f1.mod
    obtain ⟨a1, st⟩ := own_app fr1.own (srcOf_row f1.row) (by simp [lim]; omega)
    have fr := fr1.app st
    generalize appV g1 y 1 (numB c.q).length = y2 at *
    generalize appH g1 y 5 1 (numB c.q).length (Go.Abs.bytes (numB c.q)) = g2 at *
    refine ⟨g2, y2, [(1, [.sc (.ptr p 0 10)]), (4, [.sc (.str o)]), (5, [.sc y2])], runM fun R RO RD RT E => ?_, ⟨rfl, rfl, rfl⟩, by simpa [layB] using fr⟩
    have l0 := ld10 x0 (j := 2) rfl
    have p0 := fl10 x0
    clear f f1 fr1 fr st x0 hp
    simp [M.a12, sqd, sqh, E.eqs, s1, s4, s5, q1, l0, p0, e1, a1]

theorem ec_a {e : Env} (s : EnC e p (ofT c.k) y) (hp : hb[p]? = some ⟨.var, c.cells⟩) (ok : c.Ok) (f : Fresh hb g y l) (hl : l.length ≤ 2 ^ 30) : ∃ g' y' e', runE F O (sqh (sqd 5 M.a12.body)) e g = some (.normal, e', g') ∧ EnC e' p (ofT c.k) y' ∧ Fresh hb g' y' (l ++ optC c 2) := by
  obtain ⟨s1, s4, s5⟩ := s
  have hlo : (ofT c.k).length < 1000 := by have := ofT_len c.k; omega
  have q1 := spec23 g (w := w_a) hlo
  rw [has_a] at q1
  have x0 := f.mod.get hp fun h => h
  unfold optC
  generalize ofT c.k = o at *
  cases hf : fl c.k 2
  · rw [hf] at q1
    refine ⟨g, y, [(1, [.sc (.ptr p 0 10)]), (4, [.sc (.str o)]), (5, [.sc y]), (28, [.sc (.bool false)])], runM fun R RO RD RT E => ?_, ⟨rfl, rfl, rfl⟩, by simpa using f⟩
    simp [M.a12, sqd, sqh, E.eqs, s1, s4, s5, q1]
  · rw [hf] at q1
    have n1 := numB_le ok.a
    obtain ⟨g1, y1, e1, f1⟩ := spec29 g ok.a
    have fr1 := f.pass f1.mod
    obtain ⟨a1, st⟩ := own_app fr1.own (srcOf_row f1.row) (by simp [lim]; omega)
    have fr := fr1.app st
    generalize appV g1 y 1 (numB c.a).length = y2 at *
    generalize appH g1 y 5 1 (numB c.a).length (Go.Abs.bytes (numB c.a)) = g2 at *
    refine ⟨g2, y2, [(1, [.sc (.ptr p 0 10)]), (4, [.sc (.str o)]), (5, [.sc y2])], runM fun R RO RD RT E => ?_, ⟨rfl, rfl, rfl⟩, by simpa [layB] using fr⟩
    have l0 := ld10 x0 (j := 3) rfl
    have p0 := fl10 x0
    clear f f1 fr1 fr st x0 hp
    simp [M.a12, sqd, sqh, E.eqs, s1, s4, s5, q1, l0, p0, e1, a1]

theorem ec_b {e : Env} (s : EnC e p (ofT c.k) y) (hp : hb[p]? = some ⟨.var, c.cells⟩) (ok : c.Ok) (f : Fresh hb g y l) (hl : l.length ≤ 2 ^ 30) : ∃ g' y' e', runE F O (sqh (sqd 6 M.a12.body)) e g = some (.normal, e', g') ∧ EnC e' p (ofT c.k) y' ∧ Fresh hb g' y' (l ++ optC c 3) := by
  obtain ⟨s1, s4, s5⟩ := s
  have hlo : (ofT c.k).length < 1000 := by have := ofT_len c.k; omega
  have q1 := spec23 g (w := w_b) hlo
  rw [has_b] at q1
  have x0 := f.mod.get hp fun h => h
  unfold optC
  generalize ofT c.k = o at *
  cases hf : fl c.k 3
  · rw [hf] at q1
    refine ⟨g, y, [(1, [.sc (.ptr p 0 10)]), (4, [.sc (.str o)]), (5, [.sc y]), (35, [.sc (.bool false)])], runM fun R RO RD RT E => ?_, ⟨rfl, rfl, rfl⟩, by simpa using f⟩
    simp [M.a12, sqd, sqh, E.eqs, s1, s4, s5, q1]
  · rw [hf] at q1
    have n1 := numB_le ok.b
    obtain ⟨g1, y1, e1, f1⟩ := spec29 g ok.b
    have fr1 := f.pass f1.mod
    obtain ⟨a1, st⟩ := own_app fr1.own (srcOf_row f1.row) (by simp [lim]; omega)
    have fr := fr1.app st
    generalize appV g1 y 1 (numB c.b).length = y2 at *
    generalize appH g1 y 5 1 (numB c.b).length (Go.Abs.bytes (numB c.b)) = g2 at *
    refine ⟨g2, y2, [(1, [.sc (.ptr p 0 10)]), (4, [.sc (.str o)]), (5, [.sc y2])], runM fun R RO RD RT E => ?_, ⟨rfl, rfl, rfl⟩, by simpa [layB] using fr⟩
    have l0 := ld10 x0 (j := 4) rfl
    have p0 := fl10 x0
    clear f f1 fr1 fr st x0 hp
    simp [M.a12, sqd, sqh, E.eqs, s1, s4, s5, q1, l0, p0, e1, a1]

theorem ec_amount {e : Env} (s : EnC e p (ofT c.k) y) (hp : hb[p]? = some ⟨.var, c.cells⟩) (ok : c.Ok) (f : Fresh hb g y l) (hl : l.length ≤ 2 ^ 30) : ∃ g' y' e', runE F O (sqh (sqd 7 M.a12.body)) e g = some (.normal, e', g') ∧ (e'.get 1 = [.sc (.ptr p 0 10)] ∧ e'.get 5 = [.sc y']) ∧ Fresh hb g' y' (l ++ optC c 4) := by
  obtain ⟨s1, s4, s5⟩ := s
  have hlo : (ofT c.k).length < 1000 := by have := ofT_len c.k; omega
  have q1 := spec23 g (w := w_amount) hlo
  rw [has_amount] at q1
  have x0 := f.mod.get hp fun h => h
  unfold optC
  generalize ofT c.k = o at *
  cases hf : fl c.k 4
  · rw [hf] at q1
    refine ⟨g, y, [(1, [.sc (.ptr p 0 10)]), (5, [.sc y]), (42, [.sc (.bool false)])], runM fun R RO RD RT E => ?_, ⟨rfl, rfl⟩, by simpa using f⟩
    simp [M.a12, sqd, sqh, E.eqs, s1, s4, s5, q1]
  · rw [hf] at q1
    have n1 := decB_le (s := c.sc) ok.h1 ok.h2 ok.lo
    obtain ⟨g1, y1, e1, f1⟩ := spec30 g (s := c.sc) ok.h1 ok.h2 ok.lo
    have fr1 := f.pass f1.mod
    obtain ⟨a1, st⟩ := own_app fr1.own (srcOf_row f1.row) (by simp [lim]; omega)
    have fr := fr1.app st
    generalize appV g1 y 1 (decB c.hi c.lo c.sc).length = y2 at *
    generalize appH g1 y 5 1 (decB c.hi c.lo c.sc).length (Go.Abs.bytes (decB c.hi c.lo c.sc)) = g2 at *
    refine ⟨g2, y2, [(1, [.sc (.ptr p 0 10)]), (5, [.sc y2])], runM fun R RO RD RT E => ?_, ⟨rfl, rfl⟩, by simpa [layB] using fr⟩
    have l0 : loadA g true 3 [.sc (.ptr p 5 10)] = some ([.agg [.int .i64 c.hi, .int .u64 c.lo, .int .i64 c.sc]], g) := by simp [loadA, x0, Cm.cells]
    have p0 := fl10 x0
    clear f f1 fr1 fr st x0 hp
    simp [M.a12, sqd, sqh, E.eqs, s1, s4, s5, q1, l0, p0, e1, a1]

theorem ec_tail {e : Env} (s1 : e.get 1 = [.sc (.ptr p 0 10)]) (s5 : e.get 5 = [.sc y]) (hp : hb[p]? = some ⟨.var, c.cells⟩) (hx : c.x.length ≤ 3) (hy : c.y.length ≤ 3) (f : Fresh hb g y l) (hne : l ≠ []) (hl : l.length ≤ 2 ^ 30) : ∃ g' y', runE F O (sqd 8 M.a12.body) e g = some (.ret, [(2, [.sc y']), (3, [.sc (.int .i64 0)])], g') ∧ Fresh hb g' y' (l ++ c.x ++ c.y) := by
  have x0 := f.mod.get hp fun h => h
  obtain ⟨a1, st1⟩ := own_apps f.own hne c.x (by simp [lim]; omega)
  have fr1 := f.app st1
  have x1 := fr1.mod.get hp fun h => h
  generalize appV g y 1 c.x.length = y1 at *
  generalize appH g y 5 1 c.x.length (Go.Abs.bytes c.x) = g1 at *
  obtain ⟨a2, st2⟩ := own_apps fr1.own (by simp [hne]) c.y (by simp [lim]; omega)
  have fr2 := fr1.app st2
  have x2 := fr2.mod.get hp fun h => h
  generalize appV g1 y1 1 c.y.length = y2 at *
  generalize appH g1 y1 5 1 c.y.length (Go.Abs.bytes c.y) = g2 at *
  refine ⟨g2, y2, runM fun R RO RD RT E => ?_, fr2⟩
  have l0 := ld10 x0 (j := 8) rfl
  have l1 := ld10 x1 (j := 9) rfl
  have l2 := ld10 x0 (j := 9) rfl
  have p0 := fl10 x0
  have p1 := fl10 x1
  clear f fr1 fr2 st1 st2 x0 x1 x2 hp
  simp [M.a12, sqd, E.eqs, s1, s5, l0, l1, l2, p0, p1, a1, a2]

theorem encB_same (hr : rightC c = true) : (UInt8.ofNat (c.k % 256).toNat :: numB c.s) ++ optC c 1 ++ optC c 2 ++ optC c 3 ++ optC c 4 ++ c.x ++ c.y = encB c := by
  unfold rightC at hr
  simp only [Bool.and_eq_true, decide_eq_true_eq] at hr
  obtain ⟨hm, hf⟩ := hr
  have h0 := fl0 hm
  have h5 := fromOk_fld (i := 5) hf (by omega) (by omega)
  have h6 := fromOk_fld (i := 6) hf (by omega) (by omega)
  have e5 : optC c 5 = c.x := by
    unfold optC
    unfold fldOk at h5
    cases h : fl c.k 5
    · rw [h] at h5
      simp [bareB] at h5
      simp [h5]
    · rfl
  have e6 : optC c 6 = c.y := by
    unfold optC
    unfold fldOk at h6
    cases h : fl c.k 6
    · rw [h] at h6
      simp [bareB] at h6
      simp [h6]
    · rfl
  have e0 : optC c 0 = numB c.s := by unfold optC; rw [h0]; rfl
  have : layFrom c 7 0 = optC c 0 ++ (optC c 1 ++ (optC c 2 ++ (optC c 3 ++ (optC c 4 ++ (optC c 5 ++ (optC c 6 ++ [])))))) := rfl
  unfold encB
  rw [this, e0, e5, e6]
  simp

theorem spec12 (h : Heap) (ok : c.Ok) :
    ∃ h' y, call 12 [[.agg c.cells]] h = some ([.sc y, .sc (.int .i64 (encE c))], h') ∧ Fresh h h' y (encL c) := by
  obtain ⟨hb, hhb⟩ : ∃ hb : Heap, hb = h ++ [⟨.var, c.cells⟩] := ⟨_, rfl⟩
  have bb : hb[h.length]? = some ⟨.var, c.cells⟩ := by rw [hhb]; simp
  have mb : Mod (fun _ => False) h hb := by rw [hhb]; exact Mod.app _ _ _
  have qr := spec10 hb c
  have hlen : c.cells.length = 10 := rfl
  have ht : c.cells.take 10 = c.cells := rfl
  have ld : loadA hb true 10 [.sc (.ptr h.length 0 10)] = some ([.agg c.cells], hb) := by simp [loadA, bb, hlen, ht]
  unfold encE encL
  cases hc : rightC c
  · rw [hc] at qr
    have tr : trim h hb [.sc .nils, .sc (.int .i64 1)] = h := by rw [hhb]; exact trim_pure rfl
    refine ⟨_, .nils, callX (hh := h) rfl (by rfl : F 12 = some M.a12) (fun R RO RD RT E => ?_), Fresh.nils (Mod.refl _ _)⟩
    generalize c.cells = cs at *
    simp [M.a12, E.eqs, ← hhb, hlen, ld, qr, tr]
  · rw [hc] at qr
    obtain ⟨hx3, hy3⟩ := right_len hc
    have n1 := numB_le ok.s
    have ol : ∀ j, (optC c j).length ≤ 21 := fun j => by
      have := layB_le ok hx3 hy3 j
      unfold optC
      split <;> simp
      omega
    have o1 := ol 1
    have o2 := ol 2
    have o3 := ol 3
    have o4 := ol 4
    have qo := spec21 hb c.k
    have l0 := ld10 bb (j := 0) rfl
    have p0 := fl10 bb
    obtain ⟨g3, y3, e3, r3, s3, f3⟩ := ec_head bb ok (o := ofT c.k)
    have hle : (UInt8.ofNat (c.k % 256).toNat :: numB c.s).length ≤ 11 := by simp; omega
    have hne : (UInt8.ofNat (c.k % 256).toNat :: numB c.s) ≠ [] := by simp
    obtain ⟨hd, hhd⟩ : ∃ hd, hd = (UInt8.ofNat (c.k % 256).toNat :: numB c.s) := ⟨_, rfl⟩
    have same := encB_same hc
    rw [← hhd] at f3 hle hne same
    obtain ⟨g4, y4, e4, r4, s4, f4⟩ := ec_seq s3 bb ok f3 (by omega)
    obtain ⟨g5, y5, e5, r5, s5, f5⟩ := ec_a s4 bb ok f4 (by simp; omega)
    obtain ⟨g6, y6, e6, r6, s6, f6⟩ := ec_b s5 bb ok f5 (by simp; omega)
    obtain ⟨g7, y7, e7, r7, ⟨s71, s75⟩, f7⟩ := ec_amount s6 bb ok f6 (by simp; omega)
    obtain ⟨g8, y8, r8, f8⟩ := ec_tail s71 s75 bb hx3 hy3 f7 (by simp [hne]) (by simp; omega)
    rw [same] at f8
    have fr : Fresh h g8 y8 (encB c) := f8.after mb
    refine ⟨_, y8, callX (hh := trim h g8 [.sc y8, .sc (.int .i64 0)]) rfl (by rfl : F 12 = some M.a12) (fun R RO RD RT E => ?_), fr.trim2 _⟩
    have r3 := E.run r3
    have r4 := E.run r4
    have r5 := E.run r5
    have r6 := E.run r6
    have r7 := E.run r7
    have r8 := E.run r8
    clear f3 f4 f5 f6 f7 f8 fr
    have top : R M.a12.body (envFrom 0 [[.agg c.cells]]) h = some (.ret, [(2, [.sc y8]), (3, [.sc (.int .i64 0)])], g8) := by
      refine seqM E (e1 := [(1, [.sc (.ptr h.length 0 10)])]) (h1 := hb) ?_ (seqM E (e1 := [(1, [.sc (.ptr h.length 0 10)]), (8, [.sc (.bool false)])]) (h1 := hb) ?_ (seqM E (e1 := [(1, [.sc (.ptr h.length 0 10)]), (4, [.sc (.str (ofT c.k))])]) (h1 := hb) ?_ (seqM E r3 (seqM E r4 (seqM E r5 (seqM E r6 (seqM E r7 r8)))))))
      · generalize c.cells = cs at *
        simp [E.eqs, ← hhb, hlen]
      · simp [E.eqs, ld, qr]
      · simp [E.eqs, l0, p0, qo]
    rw [top]
    simp [M.a12, E.eqs]
end
end Go.Proofs.YtoghoddofokekaaDoor
