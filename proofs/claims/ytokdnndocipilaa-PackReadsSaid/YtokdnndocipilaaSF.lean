/- Chapter 1: the law 'reads': both readers, asked alike, answer alike. -/
import Derived.Test.YtokdnndocipilaaSE
set_option linter.unusedVariables false
set_option linter.unusedSimpArgs false
set_option maxRecDepth 100000
namespace Go.Proofs.Ytokdnndocipilaa
open Go.Abs

/-- one thing that is read -/
structure Ask where
  what : Int
  b : Nat
  n : Nat
  t : Int
def Ask.ok (q : Ask) : Prop := (-9223372036854775808 ≤ q.what ∧ q.what < 9223372036854775808) ∧ q.b < 256 ∧ q.n < 18446744073709551616 ∧ (-9223372036854775808 ≤ q.t ∧ q.t < 9223372036854775808)
def Ask.cells (q : Ask) : List SV := [.int .i64 q.what, .int .u8 q.b, .int .u64 q.n, .int .i64 q.t]
def askC (l : List Ask) : List SV := (l.map Ask.cells).flatten
theorem askC_get {l : List Ask} {k : Nat} {q : Ask} (hq : l[k]? = some q) {off : Nat} (ho : off < 4) : (askC l)[k * 4 + off]? = q.cells[off]? := by
  have hl : ∀ xs ∈ l.map Ask.cells, xs.length = 4 := fun xs hx => by
    obtain ⟨q, _, rfl⟩ := List.mem_map.1 hx
    rfl
  have := flat_cut hl (i := k) (xs := q.cells) (by rw [List.getElem?_map, hq]; rfl)
  rw [← this, List.getElem?_take, if_pos ho, List.getElem?_drop]
  rfl

theorem ask_at {h : Heap} {x : SV} {l : List Ask} (hx : Row h x 4 l.length (askC l)) {k : Nat} {q : Ask} (hq : l[k]? = some q) :
    ixsA h 4 [.sc x] (some k) = some ([.sc (elemP x 4 k)], h) ∧ (∀ off, fldA h off [.sc (elemP x 4 k)] = some ([.sc (fldP (elemP x 4 k) off)], h)) ∧
    loadA h false 1 [.sc (fldP (elemP x 4 k) 0)] = some ([.sc (.int .i64 q.what)], h) ∧ loadA h false 1 [.sc (fldP (elemP x 4 k) 1)] = some ([.sc (.int .u8 q.b)], h) ∧
    loadA h false 1 [.sc (fldP (elemP x 4 k) 2)] = some ([.sc (.int .u64 q.n)], h) ∧ loadA h false 1 [.sc (fldP (elemP x 4 k) 3)] = some ([.sc (.int .i64 q.t)], h) := by
  have hk : k < l.length := (List.getElem?_eq_some_iff.1 hq).1
  exact ⟨ixsA_row hx hk, fun off => fldA_row hx hk off, loadA_fld hx hk (by omega) (askC_get hq (by omega)), loadA_fld hx hk (by omega) (askC_get hq (by omega)), loadA_fld hx hk (by omega) (askC_get hq (by omega)), loadA_fld hx hk (by omega) (askC_get hq (by omega))⟩

/-- both readers, at the same place -/
structure RS (h : Heap) (xb xa xo y1 : SV) (i1 i2 : Nat) (l : List UInt8) (q : List Ask) (a bad : Nat) : Prop where
  rb : Row h xb 1 l.length (Go.Abs.bytes l)
  ra : Row h xa 4 q.length (askC q)
  ro : Row h xo 1 l.length (Go.Abs.bytes l)
  r1 : Rd h i1 y1 l a bad
  r2 : Rd h i2 xb l a bad
  ne : i1 ≠ i2
  d : ∀ j, (blk xb j ∨ blk xa j ∨ blk xo j ∨ blk y1 j) → ¬ (j = i1 ∨ j = i2)

section
variable {h h' : Heap} {xb xa xo y1 : SV} {i1 i2 : Nat} {l : List UInt8} {q : List Ask} {a bad : Nat}

theorem RS.go (s : RS h xb xa xo y1 i1 i2 l q a bad) (m : Mod (fun j => j = i1 ∨ j = i2) h h') {a' bad' : Nat} (r1 : Rd h' i1 y1 l a' bad') (r2 : Rd h' i2 xb l a' bad') : RS h' xb xa xo y1 i1 i2 l q a' bad' :=
  ⟨s.rb.mod m fun j hj => s.d j (.inl hj), s.ra.mod m fun j hj => s.d j (.inr (.inl hj)), s.ro.mod m fun j hj => s.d j (.inr (.inr (.inl hj))), r1, r2, s.ne, s.d⟩

theorem Rd.other (r : Rd h i2 xb l a bad) {S : Nat → Prop} (m : Mod S h h') (hi : ¬ S i2) (hb : ∀ j, blk xb j → ¬ S j) : Rd h' i2 xb l a bad :=
  ⟨m.get r.at_ hi, r.row.mod m hb, r.off, r.len, r.le, r.small⟩

/-- filling a row with bytes -/
theorem fill_row {x : SV} {T : List UInt8} (hx : Own h x 5 1 T.length (Go.Abs.bytes T)) {k : Nat} (hk : k < T.length) (b : UInt8) :
    ixsA h 1 [.sc x] (some k) = some ([.sc (elemP x 1 k)], h) ∧ storeA h 1 [.sc (elemP x 1 k)] [.sc (.int .u8 b.toNat)] = some ([], storeH h x k (.int .u8 b.toNat)) ∧
    Own (storeH h x k (.int .u8 b.toNat)) x 5 1 (T.set k b).length (Go.Abs.bytes (T.set k b)) ∧ Mod (blk x) h (storeH h x k (.int .u8 b.toNat)) := by
  have h1 := storeA_elem hx hk (by omega) (.int .u8 (b.toNat : Int))
  have h2 := storeH_own hx (i := k) (by omega) (.int .u8 (b.toNat : Int))
  rw [Nat.mul_one] at h1
  rw [← bytes_set] at h2
  exact ⟨ixsA_row hx.row hk, h1, by rw [List.length_set]; exact h2, storeH_mod _ _⟩

theorem reads_fill {x : SV} {v0 v1 v5 v6 v7 v8 v9 : TV} : ∀ (m k : Nat) (T : List UInt8) (h : Heap) (e : Env), k + m = T.length → T.length ≤ 140737488353280 → Own h x 5 1 T.length (Go.Abs.bytes T) →
    e.get 0 = v0 → e.get 1 = v1 → e.get 5 = v5 → e.get 6 = v6 → e.get 7 = v7 → e.get 8 = v8 → e.get 9 = v9 → e.get 10 = [.sc x] → e.get 11 = [.sc (.int .i64 k)] →
    ∃ h', loopE F O (.loop [0, 1, 5, 6, 7, 8, 9, 10, 11] M.b29_1) e h = some (.exit 3, [(0, v0), (1, v1), (5, v5), (6, v6), (7, v7), (8, v8), (9, v9), (10, [.sc x]), (11, [.sc (.int .i64 T.length)]), (96, [.sc (.bool false)])], h') ∧ Mod (blk x) h h'
  | 0, k, T, h, e, hk, hT, hx, e0, e1, e5, e6, e7, e8, e9, e10, e11 => by
    have : k = T.length := by omega
    subst this
    have ln := lenA_row hx.row
    exact ⟨h, exitM fun R RO RD RT E => by simp [M.b29_1, E.eqs, e0, e1, e5, e6, e7, e8, e9, e10, e11, ln], Mod.refl _ _⟩
  | m + 1, k, T, h, e, hk, hT, hx, e0, e1, e5, e6, e7, e8, e9, e10, e11 => by
    have hlt : k < T.length := by omega
    have ln := lenA_row hx.row
    obtain ⟨g1, g2, g3, g4⟩ := fill_row hx hlt 238
    obtain ⟨h', r1, r2⟩ := reads_fill (x := x) (v0 := v0) (v1 := v1) (v5 := v5) (v6 := v6) (v7 := v7) (v8 := v8) (v9 := v9) m (k + 1) (T.set k 238) (storeH h x k (.int .u8 ((238 : UInt8).toNat : Int))) [(0, v0), (1, v1), (5, v5), (6, v6), (7, v7), (8, v8), (9, v9), (10, [.sc x]), (11, [.sc (.int .i64 ((k + 1 : Nat) : Int))])]
      (by rw [List.length_set]; omega) (by rw [List.length_set]; exact hT) g3 rfl rfl rfl rfl rfl rfl rfl rfl rfl
    rw [List.length_set] at r1
    refine ⟨h', stepM (fun R RO RD RT E => ?_) r1, g4.trans r2 fun _ _ h => h⟩
    have c1 : (k : Int) < T.length := by omega
    have w1 : IntKind.i64.wrap ((k : Int) + 1) = (k : Int) + 1 := wi64 (by omega) (by omega)
    have t1 : ((238 : UInt8).toNat : Int) = 238 := rfl
    rw [t1] at g2
    simp [M.b29_1, E.eqs, e0, e1, e5, e6, e7, e8, e9, e10, e11, ln, c1, g1, g2, w1, t1]
end
end Go.Proofs.Ytokdnndocipilaa
