/- Chapter 1: what is laid by any calls. -/
import Derived.Test.YtokdnndocipilaaSF
import Derived.Test.YtokdnndocipilaaY3
set_option linter.unusedVariables false
set_option linter.unusedSimpArgs false
set_option maxRecDepth 100000
namespace Go.Proofs.Ytokdnndocipilaa
open Go.Abs

/-- one thing that is laid; x: the slice of its text -/
structure Lay where
  what : Int
  b : UInt8
  n : Nat
  i : Int
  x : SV
  t : List UInt8
def Lay.ok (h : Heap) (z : Lay) : Prop := (-9223372036854775808 ≤ z.what ∧ z.what < 9223372036854775808) ∧ z.n < 18446744073709551616 ∧ (-9223372036854775808 ≤ z.i ∧ z.i < 9223372036854775808) ∧ Row h z.x 1 z.t.length (Go.Abs.bytes z.t)
def Lay.cells (z : Lay) : List SV := [.int .i64 z.what, .int .u8 z.b.toNat, .int .u64 z.n, .int .i64 z.i, z.x]
def layC (l : List Lay) : List SV := (l.map Lay.cells).flatten
/-- its bytes -/
def layB (z : Lay) : List UInt8 := if z.what % 4 = 0 then [z.b] else if z.what % 4 = 1 then numB z.n else if z.what % 4 = 3 then numB (zz z.i) else numB z.t.length ++ z.t
def laidB (l : List Lay) : List UInt8 := (l.map layB).flatten

theorem layC_get {l : List Lay} {k : Nat} {z : Lay} (hz : l[k]? = some z) {off : Nat} (ho : off < 5) : (layC l)[k * 5 + off]? = z.cells[off]? := by
  have hl : ∀ xs ∈ l.map Lay.cells, xs.length = 5 := fun xs hx => by
    obtain ⟨q, _, rfl⟩ := List.mem_map.1 hx
    rfl
  have := flat_cut hl (i := k) (xs := z.cells) (by rw [List.getElem?_map, hz]; rfl)
  rw [← this, List.getElem?_take, if_pos ho, List.getElem?_drop]
  rfl

theorem lay_at {h : Heap} {x : SV} {l : List Lay} (hx : Row h x 5 l.length (layC l)) {k : Nat} {z : Lay} (hz : l[k]? = some z) :
    ixsA h 5 [.sc x] (some k) = some ([.sc (elemP x 5 k)], h) ∧ (∀ off, fldA h off [.sc (elemP x 5 k)] = some ([.sc (fldP (elemP x 5 k) off)], h)) ∧
    loadA h false 1 [.sc (fldP (elemP x 5 k) 0)] = some ([.sc (.int .i64 z.what)], h) ∧ loadA h false 1 [.sc (fldP (elemP x 5 k) 1)] = some ([.sc (.int .u8 z.b.toNat)], h) ∧
    loadA h false 1 [.sc (fldP (elemP x 5 k) 2)] = some ([.sc (.int .u64 z.n)], h) ∧ loadA h false 1 [.sc (fldP (elemP x 5 k) 3)] = some ([.sc (.int .i64 z.i)], h) ∧
    loadA h false 1 [.sc (fldP (elemP x 5 k) 4)] = some ([.sc z.x], h) := by
  have hk : k < l.length := (List.getElem?_eq_some_iff.1 hz).1
  exact ⟨ixsA_row hx hk, fun off => fldA_row hx hk off, loadA_fld hx hk (by omega) (layC_get hz (by omega)), loadA_fld hx hk (by omega) (layC_get hz (by omega)), loadA_fld hx hk (by omega) (layC_get hz (by omega)), loadA_fld hx hk (by omega) (layC_get hz (by omega)), loadA_fld hx hk (by omega) (layC_get hz (by omega))⟩

theorem numB_le {n : Nat} (h : n < 18446744073709551616) : (numB n).length ≤ 10 := numB_length 10 n (Nat.lt_of_lt_of_le h (by decide)) (by omega)
theorem layB_le {h : Heap} {z : Lay} (hz : z.ok h) (ht : z.t.length < 18446744073709551616) : (layB z).length ≤ 10 + z.t.length := by
  obtain ⟨_, h2, ⟨h3, h4⟩, _⟩ := hz
  have a1 := numB_le h2
  have a2 := numB_le (zz_lt h3 h4)
  have a3 := numB_le ht
  unfold layB
  split
  · simp; omega
  · split
    · omega
    · split
      · omega
      · simp; omega
def sizeL (l : List Lay) : Nat := (l.map fun z => z.t.length).sum
theorem laidB_le {h : Heap} : ∀ (l : List Lay), (∀ z ∈ l, z.ok h ∧ z.t.length ≤ 2 ^ 38) → (laidB l).length ≤ 10 * l.length + sizeL l
  | [], _ => by simp [laidB, sizeL]
  | z :: l, hl => by
    have h1 := layB_le (hl z (by simp)).1 (by have := (hl z (by simp)).2; omega)
    have h2 := laidB_le l fun x hx => hl x (List.mem_cons_of_mem _ hx)
    simp only [laidB, sizeL, List.map_cons, List.flatten_cons, List.length_append, List.length_cons, List.sum_cons] at h2 ⊢
    omega
theorem size_mem {z : Lay} : ∀ {l : List Lay}, z ∈ l → z.t.length ≤ sizeL l
  | [], h => by simp at h
  | y :: l, h => by
    simp only [sizeL, List.map_cons, List.sum_cons]
    rcases List.mem_cons.1 h with rfl | h
    · omega
    · have := size_mem h
      simp only [sizeL] at this
      omega
theorem laidB_take (l : List Lay) {k : Nat} {z : Lay} (hz : l[k]? = some z) : laidB (l.take (k + 1)) = laidB (l.take k) ++ layB z := by
  unfold laidB
  rw [List.take_add_one, hz]
  simp
theorem sizeL_take (l : List Lay) (k : Nat) : sizeL (l.take k) ≤ sizeL l := by
  have : sizeL l = sizeL (l.take k) + sizeL (l.drop k) := by
    unfold sizeL
    rw [← List.sum_append, ← List.map_append, List.take_append_drop]
  omega

/-- a writer in memory newer than h0 -/
structure LI (h0 h : Heap) (i : Nat) (w : List UInt8) : Prop where
  wr : Wr h i w
  mod : Mod (fun _ => False) h0 h
  new : ∀ j, wset h i j → h0.length ≤ j
theorem LI.step {h0 h h' : Heap} {i : Nat} {w m : List UInt8} (a : LI h0 h i w) (s : WStep h i w h' m) : LI h0 h' i (w ++ m) :=
  ⟨s.wr, a.mod.trans s.mod fun j hj hs => absurd (a.new j hs) (by omega), fun j hj => by
    rcases s.new j hj with h1 | h1
    · exact a.new j h1
    · exact Nat.le_trans a.mod.1 h1⟩
theorem LI.apart {h0 h : Heap} {i : Nat} {w : List UInt8} (a : LI h0 h i w) {y : SV} {sz n : Nat} {cs : List SV} (hy : Row h0 y sz n cs) : ∀ j, blk y j → ¬ wset h i j := fun j hj hs => by
  have := hy.lt j hj
  have := a.new j hs
  omega

theorem laid_loop {h0 : Heap} {xa : SV} {l : List Lay} {i : Nat} (ra : Row h0 xa 5 l.length (layC l)) (hl : ∀ z ∈ l, z.ok h0 ∧ z.t.length ≤ 2 ^ 38) (hn : l.length ≤ 2 ^ 30) (hs : sizeL l ≤ 2 ^ 36) : ∀ (m k : Nat) (h : Heap) (e : Env), k + m = l.length → LI h0 h i (laidB (l.take k)) →
    e.get 0 = [.sc xa] → e.get 3 = [.sc (.ptr i 0 1)] → e.get 4 = [.sc (.int .i64 k)] →
    ∃ h', loopE F O (.loop [0, 3, 4] M.b30_0) e h = some (.exit 0, [(0, [.sc xa]), (3, [.sc (.ptr i 0 1)]), (4, [.sc (.int .i64 l.length)]), (11, [.sc (.bool false)])], h') ∧ LI h0 h' i (laidB l)
  | 0, k, h, e, hk, s, e0, e3, e4 => by
    have : k = l.length := by omega
    subst this
    rw [List.take_length] at s
    have ln := lenA_row (ra.mod s.mod fun _ _ h => h)
    exact ⟨h, exitM fun R RO RD RT E => by simp [M.b30_0, E.eqs, e0, e3, e4, ln], s⟩
  | m + 1, k, h, e, hk, s, e0, e3, e4 => by
    obtain ⟨z, hz⟩ : ∃ z, l[k]? = some z := ⟨_, List.getElem?_eq_getElem (by omega)⟩
    have hzm := List.mem_of_getElem? hz
    obtain ⟨⟨⟨zw1, zw2⟩, zn, ⟨zi1, zi2⟩, zr⟩, zt⟩ := hl z hzm
    have ra1 := ra.mod s.mod fun _ _ h => h
    have ln := lenA_row ra1
    obtain ⟨g1, g2, g3, g4, g5, g6, g7⟩ := lay_at ra1 hz
    have c1 : (k : Int) < l.length := by omega
    have w1 : IntKind.i64.wrap ((k : Int) + 1) = (k : Int) + 1 := wi64 (by omega) (by omega)
    have hsz : (laidB (l.take k)).length ≤ 2 ^ 37 := by
      have h1 := laidB_le (l.take k) fun z hz => hl z (List.mem_of_mem_take hz)
      have h2 := sizeL_take l k
      have h3 : (l.take k).length ≤ l.length := by simp; omega
      omega
    have pk := spec14 h (n := z.what) (m := 4) (by omega) (by omega) zw1 zw2
    have p0 := Int.emod_nonneg z.what (b := 4) (by omega)
    have p5 := Int.emod_lt_of_pos z.what (b := 4) (by omega)
    have key : ∃ h1, (∀ R RO RD RT, Mach F O R RO RD RT → R M.b30_0 (keep [0, 3, 4] e) h = some (.normal, [(0, [.sc xa]), (3, [.sc (.ptr i 0 1)]), (4, [.sc (.int .i64 ((k + 1 : Nat) : Int))])], h1)) ∧ LI h0 h1 i (laidB (l.take k) ++ layB z) := by
      unfold layB
      generalize z.what % 4 = w at *
      have hw : w = 0 ∨ w = 1 ∨ w = 3 ∨ w = 2 := by omega
      rcases hw with rfl | rfl | rfl | rfl
      · obtain ⟨h1, s1, st⟩ := spec15 z.b s.wr (by omega)
        exact ⟨h1, fun R RO RD RT E => by simp [M.b30_0, E.eqs, e0, e3, e4, ln, c1, w1, g1, g2, g3, g4, pk, s1], by simpa using s.step st⟩
      · obtain ⟨h1, s1, st⟩ := spec16 zn s.wr (by omega)
        exact ⟨h1, fun R RO RD RT E => by simp [M.b30_0, E.eqs, e0, e3, e4, ln, c1, w1, g1, g2, g3, g5, pk, s1], by simpa using s.step st⟩
      · obtain ⟨h1, s1, st⟩ := spec18 zi1 zi2 s.wr (by omega)
        exact ⟨h1, fun R RO RD RT E => by simp [M.b30_0, E.eqs, e0, e3, e4, ln, c1, w1, g1, g2, g3, g6, pk, s1], by simpa using s.step st⟩
      · obtain ⟨h1, s1, st⟩ := spec20 s.wr (by omega) (zr.mod s.mod fun _ _ h => h) zt (s.apart zr)
        exact ⟨h1, fun R RO RD RT E => by simp [M.b30_0, E.eqs, e0, e3, e4, ln, c1, w1, g1, g2, g3, g7, pk, s1], by simpa using s.step st⟩
    obtain ⟨h1, st, s1⟩ := key
    rw [← laidB_take l hz] at s1
    obtain ⟨h2, lo, s2⟩ := laid_loop ra hl hn hs m (k + 1) h1 [(0, [.sc xa]), (3, [.sc (.ptr i 0 1)]), (4, [.sc (.int .i64 ((k + 1 : Nat) : Int))])] (by omega) s1 rfl rfl rfl
    exact ⟨h2, stepM st lo, s2⟩

theorem spec30 {h : Heap} {xa : SV} {l : List Lay} (ra : Row h xa 5 l.length (layC l)) (hl : ∀ z ∈ l, z.ok h ∧ z.t.length ≤ 2 ^ 38) (hn : l.length ≤ 2 ^ 30) (hs : sizeL l ≤ 2 ^ 36) :
    ∃ h' y, call 30 [[.sc xa]] h = some ([.sc y], h') ∧ Fresh h h' y (laidB l) := by
  have s0 := spec12 h
  have hm : Mod (fun _ => False) h (h ++ [⟨.var, [.nils]⟩]) := Mod.app _ _ _
  have li : LI h (h ++ [⟨.var, [.nils]⟩]) h.length (laidB (l.take 0)) := ⟨by simpa [laidB] using wr_new h, hm, fun j hj => by
    rcases hj with rfl | ⟨x, hx, hb⟩
    · exact Nat.le_refl _
    · simp at hx
      subst hx
      exact hb.elim⟩
  obtain ⟨h1, lo, s1⟩ := laid_loop ra hl hn hs l.length 0 _ [(0, [.sc xa]), (3, [.sc (.ptr h.length 0 1)]), (4, [.sc (.int .i64 0)])] (by omega) li rfl rfl rfl
  have lo := loop_run lo
  have hsz : (laidB l).length ≤ 2 ^ 37 := by
    have := laidB_le l hl
    omega
  obtain ⟨h2, y, s2, f2⟩ := spec22 s1.wr (by omega)
  have fr : Fresh h h2 y (laidB l) := f2.after s1.mod
  refine ⟨_, y, callX (hh := trim h h2 [.sc y]) rfl (by rfl : F 30 = some M.a30) (fun R RO RD RT E => ?_), fr.trim⟩
  have lo := E.run lo
  simp [M.a30, E.eqs, s0, freshB, lo, s2]

theorem tySlL : Try.prog.underlying 22 = some (.slice 30) := by kernel_rfl
theorem czL : Try.prog.cellsOf 30 = 5 := by kernel_rfl
theorem fsL : fieldsOf Try.prog 30 = some [(3, 0, 1), (5, 1, 1), (28, 2, 1), (2, 3, 1), (23, 4, 1)] := by kernel_rfl
theorem agSlL : Go.Abs.isAgg Try.prog 22 = false := by kernel_rfl
theorem tyI64 : Try.prog.underlying 2 = some (.int .i64) := by kernel_rfl

theorem view_lay {H : Type} {k : Nat} {xs : List SV} {d : DataW H} {h : Heap} (hv : View Try.prog h (k + 3) 30 xs d) : ∃ z : Lay, xs = z.cells ∧ z.ok h ∧ z.t.length + 1 ≤ Rows.uptoBulk d := by
  obtain ⟨parts, rfl, hl, hp, hf⟩ := View.fields fsL czL hv
  match xs, hl, parts, hp with
  | [x0, x1, x2, x3, x4], _, [p0, p1, p2, p3, p4], _ =>
    obtain ⟨a, h1, h2, _⟩ := View.int tyI (hf 0 _ _ rfl rfl)
    obtain ⟨b, h3, h4, _⟩ := View.int tyB (hf 1 _ _ rfl rfl)
    obtain ⟨c, h5, h6, _⟩ := View.int tyN (hf 2 _ _ rfl rfl)
    obtain ⟨e, h7, h8, _⟩ := View.int tyI64 (hf 3 _ _ rfl rfl)
    obtain ⟨t, g1, g2⟩ := view_bytes (x := x4) (d := p4) (h := h) (k := k) (hf 4 _ _ rfl rfl)
    simp at h1 h3 h5 h7
    subst h1 h3 h5 h7
    have h4 := wf_u8 h4
    have h6 := wf_u64 h6
    have hb : ((UInt8.ofNat b.toNat).toNat : Int) = b := by rw [UInt8.toNat_ofNat']; omega
    refine ⟨⟨a, UInt8.ofNat b.toNat, c.toNat, e, x4, t⟩, ?_, ⟨wf_i64 h2, by simp only; omega, wf_i64 h8, g1⟩, ?_⟩
    · simp only [Lay.cells, hb]
      rw [Int.toNat_of_nonneg h6.1]
    · rw [bulk_agg]
      simp only [Rows.uptoBulkAll]
      omega

/-- likewise, with a measure -/
theorem list_of_sum {α D : Type} {cells : α → List SV} {ok : α → Prop} {sz : Nat} {f : α → Nat} {g : D → Nat} : ∀ (n : Nat) (cs : List SV) (ds : List D), cs.length = n * sz → ds.length = n → (∀ i d, ds[i]? = some d → ∃ q : α, (cs.drop (i * sz)).take sz = cells q ∧ ok q ∧ f q ≤ g d) →
    ∃ l : List α, l.length = n ∧ cs = (l.map cells).flatten ∧ (∀ z ∈ l, ok z) ∧ (l.map f).sum ≤ (ds.map g).sum
  | 0, cs, ds, hl, hd, _ => ⟨[], rfl, by simpa using hl, by simp, by simp⟩
  | n + 1, cs, [], hl, hd, _ => by simp at hd
  | n + 1, cs, d :: ds, hl, hd, hc => by
    obtain ⟨q, h1, h2, h3⟩ := hc 0 d rfl
    have e2 : (n + 1) * sz = n * sz + sz := by rw [Nat.add_mul, Nat.one_mul]
    obtain ⟨l, g1, g2, g3, g4⟩ := list_of_sum (cells := cells) (ok := ok) (sz := sz) (f := f) (g := g) n (cs.drop sz) ds (by rw [List.length_drop]; omega) (by simpa using hd) fun i d hi => by
      obtain ⟨q, h1, h2⟩ := hc (i + 1) d (by simpa using hi)
      refine ⟨q, ?_, h2⟩
      rw [← h1, List.drop_drop]
      congr 2
      rw [Nat.add_mul, Nat.one_mul, Nat.add_comm]
    refine ⟨q :: l, by simp [g1], ?_, fun z hz => ?_, by simp; omega⟩
    · simp only [List.map_cons, List.flatten_cons, ← g2, ← h1]
      rw [Nat.zero_mul, List.drop_zero, List.take_append_drop]
    · rcases List.mem_cons.1 hz with rfl | hz
      · exact h2
      · exact g3 z hz

theorem bulk_sum {H : Type} : ∀ ds : List (DataW H), (ds.map Rows.uptoBulk).sum = Rows.uptoBulkAll ds
  | [] => rfl
  | d :: ds => by simp [Rows.uptoBulkAll, bulk_sum ds]

theorem in_lays {H : Type} {k : Nat} {tv : TV} {d : DataW H} {h : Heap} (hi : In1 Try.prog h (k + 4) 22 tv d) : ∃ (x : SV) (l : List Lay), tv = [.sc x] ∧ Row h x 5 l.length (layC l) ∧ (∀ z ∈ l, z.ok h) ∧ l.length + sizeL l ≤ Rows.uptoBulk d := by
  obtain ⟨xs, hv, rfl⟩ := in_cell agSlL hi
  rcases View.slice tySlL czL hv with ⟨rfl, rfl⟩ | ⟨b, n, cs, els, rest, rfl, h2, h3, h4, h5, rfl, h7⟩
  · exact ⟨.nils, [], rfl, .inl ⟨rfl, rfl, rfl⟩, by simp, by simp [sizeL]⟩
  · obtain ⟨l, g1, g2, g3, g4⟩ := list_of_sum (cells := Lay.cells) (ok := fun z => z.ok h) (sz := 5) (f := fun z => z.t.length + 1) (g := Rows.uptoBulk) n cs els h3 h4 fun i d hi => view_lay (h7 i d hi)
    refine ⟨_, l, rfl, .inr ⟨b, 0, n * 5, _, by rw [g1], h2, by simp [h3], by rw [g1]; omega, rfl, ?_⟩, g3, ?_⟩
    · rw [g1, List.drop_zero, ← h3, List.take_length]
      exact g2
    · rw [bulk_slice]
      rw [bulk_sum] at g4
      have : (l.map fun z => z.t.length + 1).sum = sizeL l + l.length := by
        clear g1 g2 g3 g4
        unfold sizeL
        induction l with
        | nil => rfl
        | cons z l ih => simp at ih ⊢; omega
      omega
end Go.Proofs.Ytokdnndocipilaa
