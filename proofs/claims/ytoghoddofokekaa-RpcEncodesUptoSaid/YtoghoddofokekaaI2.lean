/- Chapter 6: a message that comes in; copies of it; sameness. -/
import Derived.Test.YtoghoddofokekaaI1
set_option linter.unusedVariables false
set_option linter.unusedSimpArgs false
set_option maxRecDepth 100000
namespace Go.Proofs.Ytoghoddofokekaa
open Go.Abs

theorem view_ent {H : Type} {k : Nat} {xs : List SV} {d : DataW H} {h : Heap} (hv : View Try.prog h (k + 4) 57 xs d) : ∃ z : En × SV, xs = z.1.c z.2 ∧ Row h z.2 1 z.1.T.length (Go.Abs.bytes z.1.T) ∧ z.1.T.length ≤ Rows.uptoBulk d ∧ z.1.term < 18446744073709551616 ∧ z.1.index < 18446744073709551616 := by
  have ha : Go.Abs.isAgg Try.prog 57 = true := by kernel_rfl
  obtain ⟨kind, conf, term, index, x, T, e, hx, hb, ht, hi, _⟩ := in_entry (tv := tvOf (Go.Abs.isAgg Try.prog 57) xs) ⟨xs, hv, rfl⟩
  rw [ha] at e
  have e : xs = eC kind term index x conf := by simpa [tvOf] using e
  exact ⟨(⟨kind, term, index, T, conf⟩, x), e, hx, hb, ht, hi⟩

theorem ents_of {P : En × SV → Prop} : ∀ (n : Nat) (cs : List SV), cs.length = n * 5 → (∀ i, i < n → ∃ z : En × SV, (cs.drop (i * 5)).take 5 = z.1.c z.2 ∧ P z) → ∃ es : List (En × SV), es.length = n ∧ entC es = cs ∧ ∀ z ∈ es, P z
  | 0, cs, hl, _ => ⟨[], rfl, by have : cs = [] := List.eq_nil_of_length_eq_zero (by omega); rw [this]; rfl, fun z hz => by simp at hz⟩
  | n + 1, cs, hl, hz => by
    obtain ⟨z, hz0, hp⟩ := hz 0 (by omega)
    obtain ⟨es, h1, h2, h3⟩ := ents_of n (cs.drop 5) (by simp; omega) fun i hi => by
      obtain ⟨y, hy, hq⟩ := hz (i + 1) (by omega)
      refine ⟨y, ?_, hq⟩
      rw [List.drop_drop, ← hy, Nat.succ_mul, Nat.add_comm]
    refine ⟨z :: es, by simp [h1], ?_, fun y hy => ?_⟩
    · have : entC (z :: es) = z.1.c z.2 ++ entC es := rfl
      rw [this, h2, ← hz0]
      simp
    · rcases List.mem_cons.1 hy with rfl | hy
      · exact hp
      · exact h3 y hy

theorem view_ents {H : Type} {k : Nat} {x : SV} {d : DataW H} {h : Heap} (hv : View Try.prog h (k + 5) 25 [x] d) : ∃ es : List (En × SV), EsAt h x es ∧ es.length ≤ Rows.uptoBulk d ∧ ∀ z ∈ es, z.1.T.length ≤ Rows.uptoBulk d := by
  rcases View.slice (by kernel_rfl : Try.prog.underlying 25 = some (.slice 57)) (by kernel_rfl : Try.prog.cellsOf 57 = 5) hv with ⟨h1, rfl⟩ | ⟨b, n, cs, els, rest, h1, h2, h3, h4, h5, rfl, h7⟩
  · simp only [List.cons.injEq, and_true] at h1
    subst h1
    exact ⟨[], ⟨.inl ⟨rfl, rfl, rfl⟩, fun z hz => by simp at hz, fun z hz => by simp at hz⟩, by simp, fun z hz => by simp at hz⟩
  · simp only [List.cons.injEq, and_true] at h1
    subst h1
    have hn := bulk_len els
    obtain ⟨es, e1, e2, e3⟩ := ents_of (P := fun z => Row h z.2 1 z.1.T.length (Go.Abs.bytes z.1.T) ∧ z.1.T.length ≤ Rows.uptoBulkAll els ∧ z.1.term < 18446744073709551616 ∧ z.1.index < 18446744073709551616) n cs h3 fun i hi => by
      have hlt : i < els.length := by omega
      obtain ⟨z, z1, z2, z3, z4⟩ := view_ent (h7 i _ (List.getElem?_eq_getElem hlt))
      have := bulk_mem (List.getElem_mem hlt)
      exact ⟨z, z1, z2, by omega, z4⟩
    refine ⟨es, ⟨.inr ⟨b, 0, n * 5, _, by rw [e1], h2, by simp [h3], by rw [e1]; omega, rfl, by rw [e2]; simp [e1, ← h3]⟩, fun z hz => (e3 z hz).1, fun z hz => (e3 z hz).2.2⟩, by rw [bulk_slice]; omega, fun z hz => by rw [bulk_slice]; have := (e3 z hz).2.1; omega⟩

/-- the bounds of a message's numbers -/
structure MsN (m : Ms) : Prop where
  term : m.term < 18446744073709551616
  index : m.index < 18446744073709551616
  lt : m.lt < 18446744073709551616
  cm : m.cm < 18446744073709551616
  bi : m.bi < 18446744073709551616
  bt : m.bt < 18446744073709551616
  off : -9223372036854775808 ≤ m.off ∧ m.off < 9223372036854775808

theorem one_len {α : Type} {l : List α} (h : l.length = 1) : ∃ x, l = [x] := by
  match l, h with
  | [x], _ => exact ⟨x, rfl⟩

theorem in_msg {H : Type} {k : Nat} {tv : TV} {d : DataW H} {h : Heap} (hi : In1 Try.prog h (k + 6) 30 tv d) : ∃ (m : Ms) (xe xd : SV), tv = [.agg (m.cells xe xd)] ∧ EsAt h xe m.es ∧ Row h xd 1 m.D.length (Go.Abs.bytes m.D) ∧ m.D.length ≤ Rows.uptoBulk d ∧ m.es.length ≤ Rows.uptoBulk d ∧ (∀ z ∈ m.es, z.1.T.length ≤ Rows.uptoBulk d) ∧ MsN m := by
  obtain ⟨xs, hv, rfl⟩ := hi
  obtain ⟨parts, rfl, hl, hp, hf⟩ := View.fields (L := [(3, 0, 1), (3, 1, 1), (3, 2, 1), (24, 3, 1), (24, 4, 1), (24, 5, 1), (25, 6, 1), (24, 7, 1), (4, 8, 1), (27, 9, 3), (3, 12, 1), (28, 13, 1), (4, 14, 1)]) (n := 15) (by kernel_rfl) (by kernel_rfl) hv
  have ha : Go.Abs.isAgg Try.prog 30 = true := by kernel_rfl
  have ti : Try.prog.underlying 3 = some (.int .i64) := by kernel_rfl
  have tu : Try.prog.underlying 24 = some (.int .u64) := by kernel_rfl
  have tb : Try.prog.underlying 4 = some .bool := by kernel_rfl
  match xs, hl, parts, hp with
  | [x0, x1, x2, x3, x4, x5, x6, x7, x8, x9, x10, x11, x12, x13, x14], _, [p0, p1, p2, p3, p4, p5, p6, p7, p8, p9, p10, p11, p12], _ =>
    obtain ⟨a0, e0, b0, _⟩ := View.int ti (hf 0 _ _ rfl rfl)
    obtain ⟨a1, e1, b1, _⟩ := View.int ti (hf 1 _ _ rfl rfl)
    obtain ⟨a2, e2, b2, _⟩ := View.int ti (hf 2 _ _ rfl rfl)
    obtain ⟨a3, e3, b3, _⟩ := View.int tu (hf 3 _ _ rfl rfl)
    obtain ⟨a4, e4, b4, _⟩ := View.int tu (hf 4 _ _ rfl rfl)
    obtain ⟨a5, e5, b5, _⟩ := View.int tu (hf 5 _ _ rfl rfl)
    have f6 : View Try.prog h (k + 5) 25 [x6] p6 := hf 6 _ _ rfl rfl
    obtain ⟨a7, e7, b7, _⟩ := View.int tu (hf 7 _ _ rfl rfl)
    obtain ⟨a8, e8, _⟩ := View.bool tb (hf 8 _ _ rfl rfl)
    have f9 : View Try.prog h (k + 4 + 1) 27 [x9, x10, x11] p9 := hf 9 _ _ rfl rfl
    obtain ⟨q, rfl, _, hq, hg⟩ := View.fields (L := [(24, 0, 1), (24, 1, 1), (3, 2, 1)]) (n := 3) (by kernel_rfl) (by kernel_rfl) f9
    obtain ⟨a12, e12, b12, _⟩ := View.int ti (hf 10 _ _ rfl rfl)
    have f13 : View Try.prog h (k + 3 + 2) 28 [x13] p11 := hf 11 _ _ rfl rfl
    obtain ⟨a14, e14, _⟩ := View.bool tb (hf 12 _ _ rfl rfl)
    match q, hq with
    | [q0, q1, q2], _ =>
      obtain ⟨a9, e9, b9, _⟩ := View.int tu (hg 0 _ _ rfl rfl)
      obtain ⟨a10, e10, b10, _⟩ := View.int tu (hg 1 _ _ rfl rfl)
      obtain ⟨a11, e11, b11, _⟩ := View.int ti (hg 2 _ _ rfl rfl)
      obtain ⟨es, E1, E2, E3⟩ := view_ents f6
      obtain ⟨D, D1, D2⟩ := view_bytes f13
      simp at e0 e1 e2 e3 e4 e5 e7 e8 e9 e10 e11 e12 e14
      subst e0 e1 e2 e3 e4 e5 e7 e8 e9 e10 e11 e12 e14
      have b3 := wf_u64 b3
      have b4 := wf_u64 b4
      have b5 := wf_u64 b5
      have b7 := wf_u64 b7
      have b9 := wf_u64 b9
      have b10 := wf_u64 b10
      have b12 := wf_i64 b12
      have m6 := bulk_mem (d := p6) (ds := [p0, p1, p2, p3, p4, p5, p6, p7, p8, .agg [q0, q1, q2], p10, p11, p12]) (by simp)
      have m11 := bulk_mem (d := p11) (ds := [p0, p1, p2, p3, p4, p5, p6, p7, p8, .agg [q0, q1, q2], p10, p11, p12]) (by simp)
      refine ⟨⟨a0, a1, a2, a3.toNat, a4.toNat, a5.toNat, es, a7.toNat, a8, a9.toNat, a10.toNat, a11, a12, D, a14⟩, x6, x13, ?_, E1, D1, by rw [bulk_agg]; simp only; omega, by rw [bulk_agg]; simp only; omega, fun z hz => by rw [bulk_agg]; have := E3 z hz; omega, ⟨by simp only; omega, by simp only; omega, by simp only; omega, by simp only; omega, by simp only; omega, by simp only; omega, b12⟩⟩
      rw [ha]
      unfold Ms.cells
      rw [Int.toNat_of_nonneg b3.1, Int.toNat_of_nonneg b4.1, Int.toNat_of_nonneg b5.1, Int.toNat_of_nonneg b7.1, Int.toNat_of_nonneg b9.1, Int.toNat_of_nonneg b10.1]
      rfl

/-- a message without the places of its rows -/
def Ms.plain (m : Ms) : Ms := { m with es := m.ents.map fun e => (e, .nils) }
def Ms.wes (m : Ms) (es : List (En × SV)) : Ms := { m with es := es }
theorem Ms.plain_wes {m : Ms} {es : List (En × SV)} (h : es.map (·.1) = m.ents) : (m.wes es).plain = m.plain := by
  unfold Ms.plain Ms.wes Ms.ents at *
  simp only [h]
theorem Ms.ents_plain (m : Ms) : m.plain.ents = m.ents := by
  unfold Ms.plain Ms.ents
  simp [Function.comp_def]
theorem Ms.of_plain {m m' : Ms} (h : m'.plain = m.plain) : m' = m.wes m'.es ∧ m'.ents = m.ents := by
  have he : m'.ents = m.ents := by rw [← Ms.ents_plain m', h, Ms.ents_plain]
  refine ⟨?_, he⟩
  cases m
  cases m'
  simp only [Ms.plain, Ms.mk.injEq] at h
  simp only [Ms.wes, Ms.mk.injEq]
  simp [h]
theorem Ms.len_ents (m : Ms) : m.es.length = m.ents.length := by simp [Ms.ents]
theorem rightM_wes {m : Ms} {es : List (En × SV)} (h : es.map (·.1) = m.ents) : rightM (m.wes es) = rightM m := by
  have hl : es.length = m.es.length := by rw [Ms.len_ents, ← h]; simp
  rw [rightM_same, rightM_same]
  unfold ask1 ask2 ask3 ask4
  rw [show (m.wes es).ents = m.ents from h]
  simp only [Ms.wes, hl]
  rfl
theorem rightM_plain {m m' : Ms} (h : m'.plain = m.plain) : rightM m' = rightM m := by
  obtain ⟨h1, h2⟩ := Ms.of_plain h
  rw [h1]
  exact rightM_wes h2

section
variable {h : Heap} {m : Ms} {xe xd : SV}

set_option maxHeartbeats 1000000 in
theorem spec22 (a : MsAt h m xe xd) (hT : ∀ z ∈ m.es, z.1.T.length ≤ 2 ^ 40) : ∃ h' es xe' xd', call 22 [[.agg (m.cells xe xd)]] h = some ([.agg ((m.wes es).cells xe' xd')], h') ∧ Mod (fun _ => False) h h' ∧ MsAt h' (m.wes es) xe' xd' ∧ es.map (·.1) = m.ents := by
  obtain ⟨Z, hZ⟩ : ∃ Z : List SV, Z = [.int .i64 0, .int .i64 0, .int .i64 0, .int .u64 0, .int .u64 0, .int .u64 0, .nils, .int .u64 0, .bool false, .int .u64 0, .int .u64 0, .int .i64 0, .int .i64 0, .nils, .bool false] := ⟨_, rfl⟩
  obtain ⟨h0, hh0⟩ : ∃ h0 : Heap, h0 = h ++ [⟨.var, m.cells xe xd⟩, ⟨.var, Z⟩] := ⟨_, rfl⟩
  have m0 : Mod (fun _ => False) h h0 := by rw [hh0]; exact Mod.app _ _ _
  have bA0 : h0[h.length]? = some ⟨.var, m.cells xe xd⟩ := by rw [hh0]; simp
  have bB0 : h0[h.length + 1]? = some ⟨.var, Z⟩ := by rw [hh0]; simp
  have a0 := a.mod m0
  obtain ⟨h1, x', ws, q1, c, hw⟩ := spec39 a0.es a.nes hT
  have bA1 := c.mod.get bA0 fun h => h
  have bB1 := c.mod.get bB0 fun h => h
  have lA := lt_of_get bA0
  have lB := lt_of_get bB0
  have hd := a.dat.lt
  obtain ⟨h2, hh2⟩ : ∃ h2 : Heap, h2 = h1.set h.length ⟨.var, (m.wes ws).cells x' xd⟩ := ⟨_, rfl⟩
  have m2 : Mod (fun j => j = h.length) h1 h2 := by rw [hh2]; exact Mod.set _ _ rfl
  have bA2 : h2[h.length]? = some ⟨.var, (m.wes ws).cells x' xd⟩ := by rw [hh2]; exact get_set_same bA1
  have bB2 : h2[h.length + 1]? = some ⟨.var, Z⟩ := m2.get bB1 (by omega)
  have d2 : Row h2 xd 1 m.D.length (Go.Abs.bytes m.D) := (a0.dat.mod c.mod fun _ _ h => h).mod m2 fun j hj e => by have := hd j hj; omega
  have q2 := copy_app d2 (by have := a.nd; omega)
  have f2 := copy_fresh h2 m.D
  have lI : h2.length = h1.length := by rw [hh2]; simp
  have l10 : h0.length ≤ h1.length := c.mod.1
  obtain ⟨d', hd'⟩ : ∃ d' : SV, d' = .sl h2.length 0 m.D.length m.D.length := ⟨_, rfl⟩
  rw [← hd'] at q2 f2
  obtain ⟨h3, hh3⟩ : ∃ h3 : Heap, h3 = h2 ++ [⟨.row 5 1, Go.Abs.bytes m.D⟩] := ⟨_, rfl⟩
  rw [← hh3] at q2 f2
  have bA3 := f2.mod.get bA2 fun h => h
  have bB3 := f2.mod.get bB2 fun h => h
  obtain ⟨h4, hh4⟩ : ∃ h4 : Heap, h4 = h3.set h.length ⟨.var, (m.wes ws).cells x' d'⟩ := ⟨_, rfl⟩
  have m4 : Mod (fun j => j = h.length) h3 h4 := by rw [hh4]; exact Mod.set _ _ rfl
  have bA4 : h4[h.length]? = some ⟨.var, (m.wes ws).cells x' d'⟩ := by rw [hh4]; exact get_set_same bA3
  have bB4 : h4[h.length + 1]? = some ⟨.var, Z⟩ := m4.get bB3 (by omega)
  obtain ⟨h5, hh5⟩ : ∃ h5 : Heap, h5 = h4.set (h.length + 1) ⟨.var, (m.wes ws).cells x' d'⟩ := ⟨_, rfl⟩
  have m5 : Mod (fun j => j = h.length + 1) h4 h5 := by rw [hh5]; exact Mod.set _ _ rfl
  have bB5 : h5[h.length + 1]? = some ⟨.var, (m.wes ws).cells x' d'⟩ := by rw [hh5]; exact get_set_same bB4
  have m15 : Mod (fun j => j = h.length ∨ j = h.length + 1) h1 h5 := (((m2.mono fun j _ e => .inl e).trans f2.mod fun _ _ h => h.elim).trans m4 fun j _ e => .inl e).trans m5 fun j _ e => .inr e
  have mf : Mod (fun _ => False) h h5 := (m0.trans c.mod fun _ _ h => h).trans m15 fun j hj e => by omega
  have tr : Go.Abs.trim h h5 [.agg ((m.wes ws).cells x' d')] = h5 := by simp [Go.Abs.trim, pureT, pureV, pureS, Ms.cells, hd']
  refine ⟨h5, ws, x', d', callX (hh := h5) rfl (by rfl : F 22 = some M.a22) (fun R RO RD RT E => ?_), mf, ?_, hw⟩
  · have s1 : storeA h1 1 [.sc (.ptr h.length 6 15)] [.sc x'] = some ([], h2) := by
      rw [hh2]
      simp [storeA, bA1, Ms.cells, Ms.wes]
    have s2 : storeA h3 1 [.sc (.ptr h.length 13 15)] [.sc d'] = some ([], h4) := by
      rw [hh4]
      simp [storeA, bA3, Ms.cells, Ms.wes]
    have s3 : storeA h4 15 [.sc (.ptr (h.length + 1) 0 15)] [.agg ((m.wes ws).cells x' d')] = some ([], h5) := by
      rw [hh5]
      simp [storeA, bB4, hZ, Ms.cells, Ms.wes]
    have l1 : loadA h0 false 1 [.sc (.ptr h.length 6 15)] = some ([.sc xe], h0) := by simp [loadA, bA0, Ms.cells]
    have l2 : ∀ t : Heap, loadA (h2 ++ t) false 1 [.sc (.ptr h.length 13 15)] = some ([.sc xd], h2 ++ t) := fun t => by
      have : (h2 ++ t)[h.length]? = some ⟨.var, (m.wes ws).cells x' xd⟩ := by rw [List.getElem?_append_left (lt_of_get bA2)]; exact bA2
      simp [loadA, this, Ms.cells, Ms.wes]
    have l3 : loadA h4 true 15 [.sc (.ptr h.length 0 15)] = some ([.agg ((m.wes ws).cells x' d')], h4) := by simp [loadA, bA4, Ms.cells, Ms.wes]
    have l4 : loadA h5 true 15 [.sc (.ptr (h.length + 1) 0 15)] = some ([.agg ((m.wes ws).cells x' d')], h5) := by simp [loadA, bB5, Ms.cells, Ms.wes]
    have fr : ∀ {g : Heap} {B : Blk} (k : Nat), g[h.length]? = some B → B.c.length = 15 → fldA g k [.sc (.ptr h.length 0 15)] = some ([.sc (.ptr h.length k 15)], g) := fun k hB hl => by simp [fldA, freshB_of hB hl.symm]
    have fA0 := fr 6 bA0 rfl
    have fA1 := fr 6 bA1 rfl
    have fA2 : ∀ t : Heap, fldA (h2 ++ t) 13 [.sc (.ptr h.length 0 15)] = some ([.sc (.ptr h.length 13 15)], h2 ++ t) := fun t => fr 13 (by rw [List.getElem?_append_left (lt_of_get bA2)]; exact bA2) rfl
    have fA3 := fr 13 bA3 rfl
    have zl : Z.length = 15 := by rw [hZ]; rfl
    have e15 : ∀ m' : Ms, ∀ a b, (m'.cells a b).length = 15 := fun _ _ _ => rfl
    have d9 : ∀ b : Blk, (h ++ [b]).length = h.length + 1 := fun b => by simp
    have d8 : (h ++ [(⟨.var, m.cells xe xd⟩ : Blk)]) ++ [⟨.var, Z⟩] = h0 := by rw [hh0]; simp
    have d8' : h ++ [(⟨.var, m.cells xe xd⟩ : Blk), ⟨.var, Z⟩] = h0 := by rw [hh0]
    have fB5 : resA [(2, [.sc (.ptr (h.length + 1) 0 15)])] h5 M.a22.res = some [.agg ((m.wes ws).cells x' d')] := by
      simp [M.a22, bB5, Ms.cells, Ms.wes, freshB]
    clear hh0 hh2 hh3 hh4 hh5 c a a0 d2 f2 bA0 bA1 bA2 bA3 bA4 bB0 bB1 bB2 bB3 bB4 bB5 hw m2 m4 m5 m15 mf
    refine (congrArg (finA h M.a22.res) (?_ : R M.a22.body (envFrom 0 [[.agg (m.cells xe xd)]]) h = some (.ret, [(2, [.sc (.ptr (h.length + 1) 0 15)])], h5))).trans (by simp only [Go.Abs.finA_ret, fB5, tr])
    generalize (m.wes ws).cells x' d' = C5 at *
    have ec := e15 m xe xd
    generalize m.cells xe xd = C0 at *
    simp [M.a22, E.eqs, ec, zl, d9, d8, d8', ← hZ, fA0, fA1, fA2, fA3, l1, l2, l3, q1, q2, s1, s2, s3, ← hd']
  · refine ⟨⟨?_, fun z hz => ?_, fun z hz => ?_⟩, ?_, a.ix, ?_, a.nd⟩
    · exact c.own.row.mod m15 fun j hj e => by have := c.new j hj; omega
    · exact (c.dat z hz).mod m15 fun j hj e => by have := (c.sep z hz j hj).1; omega
    · have : z.1 ∈ ws.map (·.1) := List.mem_map_of_mem hz
      rw [hw] at this
      obtain ⟨y, hy, e⟩ := List.mem_map.1 this
      rw [← e]
      exact a.es.trm y hy
    · exact (f2.row.mod m4 fun j hj e => by have := f2.new j hj; omega).mod m5 fun j hj e => by have := f2.new j hj; omega
    · have : ws.length = m.es.length := by have := congrArg List.length hw; simpa using this
      show ws.length ≤ 1048576
      rw [this]; exact a.nes

theorem sameEn_loop {es1 es2 : List (En × SV)} {x1 x2 : SV} (E1 : EsAt h x1 es1) (E2 : EsAt h x2 es2) (hs : es1.map (·.1) = es2.map (·.1)) (hn : es1.length ≤ 1048576) : ∀ (n i : Nat) (e : Env), i + n = es1.length → e.get 0 = [.sc x1] → e.get 1 = [.sc x2] → e.get 5 = [.sc (.int .i64 i)] →
    ∃ e' : Env, loopE F O (.loop [0, 1, 5] M.b59_0) e h = some (.exit 0, e', h)
  | 0, i, e, hi, e0, e1, e5 => by
    have ln := lenA_row E1.row
    have c2 : ¬ i < es1.length := by omega
    refine ⟨_, exitM (e1 := [(0, [.sc x1]), (1, [.sc x2]), (5, [.sc (.int .i64 i)]), (14, [.sc (.bool false)])]) fun R RO RD RT E => ?_⟩
    simp [M.b59_0, E.eqs, e0, e1, e5, ln, c2]
  | n + 1, i, e, hi, e0, e1, e5 => by
    have ln := lenA_row E1.row
    have hl : es1.length = es2.length := by have := congrArg List.length hs; simpa using this
    have hlt : i < es1.length := by omega
    have hlt2 : i < es2.length := by omega
    obtain ⟨z1, hz1⟩ : ∃ z, es1[i]? = some z := ⟨_, List.getElem?_eq_getElem hlt⟩
    obtain ⟨z2, hz2⟩ : ∃ z, es2[i]? = some z := ⟨_, List.getElem?_eq_getElem hlt2⟩
    have hz : z1.1 = z2.1 := by
      have := congrArg (fun l => l[i]?) hs
      simpa [hz1, hz2] using this
    obtain ⟨y1, w1⟩ := z1
    obtain ⟨y2, w2⟩ := z2
    simp only at hz
    subst hz
    have ix1 := ixsA_row E1.row hlt
    have ix2 := ixsA_row E2.row hlt2
    have ld1 : loadA h true 5 [.sc (elemP x1 5 i)] = some ([.agg (y1.c w1)], h) := loadA_ent E1.row hz1
    have ld2 : loadA h true 5 [.sc (elemP x2 5 i)] = some ([.agg (y1.c w2)], h) := loadA_ent E2.row hz2
    have sm : call 44 [[.agg (y1.c w1)], [.agg (y1.c w2)]] h = some ([.sc (.bool true)], h) := spec44 (E1.dat _ (List.mem_of_getElem? hz1)) (E2.dat _ (List.mem_of_getElem? hz2))
    obtain ⟨e', lo⟩ := sameEn_loop E1 E2 hs hn n (i + 1) [(0, [.sc x1]), (1, [.sc x2]), (5, [.sc (.int .i64 ((i + 1 : Nat) : Int))])] (by omega) rfl rfl rfl
    have wr : IntKind.i64.wrap ((i : Int) + 1) = (i : Int) + 1 := wi64 (by omega) (by omega)
    refine ⟨e', stepM (fun R RO RD RT E => ?_) lo⟩
    clear lo
    generalize y1.c w1 = c1 at *
    generalize y1.c w2 = c2 at *
    simp [M.b59_0, E.eqs, e0, e1, e5, ln, hlt, ix1, ix2, ld1, ld2, sm, wr]

theorem spec59 {es1 es2 : List (En × SV)} {x1 x2 : SV} (E1 : EsAt h x1 es1) (E2 : EsAt h x2 es2) (hs : es1.map (·.1) = es2.map (·.1)) (hn : es1.length ≤ 1048576) : call 59 [[.sc x1], [.sc x2]] h = some ([.sc (.bool true)], h) := by
  obtain ⟨e', lo⟩ := sameEn_loop E1 E2 hs hn es1.length 0 [(0, [.sc x1]), (1, [.sc x2]), (5, [.sc (.int .i64 0)])] (by omega) rfl rfl rfl
  have lo := loop_run lo
  have hl : es1.length = es2.length := by have := congrArg List.length hs; simpa using this
  have l1 := lenA_row E1.row
  have l2 := lenA_row E2.row
  rw [← hl] at l2
  refine callX rfl (by rfl : F 59 = some M.a59) (fun R RO RD RT E => ?_)
  have lo := E.run lo
  simp [M.a59, E.eqs, l1, l2, lo]

set_option maxHeartbeats 4000000 in
theorem same_wes {es1 es2 : List (En × SV)} {x1 x2 d1 d2 : SV} (E1 : EsAt h x1 es1) (E2 : EsAt h x2 es2) (hs : es1.map (·.1) = es2.map (·.1)) (hn : es1.length ≤ 1048576) (D1 : Row h d1 1 m.D.length (Go.Abs.bytes m.D)) (D2 : Row h d2 1 m.D.length (Go.Abs.bytes m.D)) :
    call 26 [[.agg ((m.wes es1).cells x1 d1)], [.agg ((m.wes es2).cells x2 d2)]] h = some ([.sc (.bool true)], h) := by
  obtain ⟨ha, hha⟩ : ∃ ha : Heap, ha = h ++ [⟨.var, (m.wes es1).cells x1 d1⟩] := ⟨_, rfl⟩
  obtain ⟨hb, hhb⟩ : ∃ hb : Heap, hb = ha ++ [⟨.var, (m.wes es2).cells x2 d2⟩] := ⟨_, rfl⟩
  have ma : Mod (fun _ => False) h ha := by rw [hha]; exact Mod.app _ _ _
  have mb : Mod (fun _ => False) ha hb := by rw [hhb]; exact Mod.app _ _ _
  have mab : Mod (fun _ => False) h hb := ma.trans mb fun _ _ h => h
  have ba : hb[h.length]? = some ⟨.var, (m.wes es1).cells x1 d1⟩ := mb.get (by rw [hha]; simp) fun h => h
  have bb : hb[ha.length]? = some ⟨.var, (m.wes es2).cells x2 d2⟩ := by rw [hhb]; simp
  have tr : trim h hb [.sc (.bool true)] = h := Mod.trim_pure mab true
  have s1 := b2sA_row (D1.mod mab fun _ _ h => h)
  have s2 := b2sA_row (D2.mod mab fun _ _ h => h)
  have sm := spec59 (E1.mod mab) (E2.mod mab) hs hn
  have fra : freshB hb h.length 15 = true := freshB_of ba rfl
  have frb : freshB hb ha.length 15 = true := freshB_of bb rfl
  have fa : ∀ k, fldA hb k [.sc (.ptr h.length 0 15)] = some ([.sc (.ptr h.length k 15)], hb) := fun k => by simp [fldA, fra]
  have fb : ∀ k, fldA hb k [.sc (.ptr ha.length 0 15)] = some ([.sc (.ptr ha.length k 15)], hb) := fun k => by simp [fldA, frb]
  have la : ∀ k, k < 15 → loadA hb false 1 [.sc (.ptr h.length k 15)] = (((m.wes es1).cells x1 d1)[k]?).map fun v => ([.sc v], hb) := fun k hk => by
    have : ((m.wes es1).cells x1 d1).length = 15 := rfl
    simp [loadA, ba, this, show k + 1 ≤ 15 by omega, List.getElem?_eq_getElem (show k < ((m.wes es1).cells x1 d1).length by omega)]
  have lb : ∀ k, k < 15 → loadA hb false 1 [.sc (.ptr ha.length k 15)] = (((m.wes es2).cells x2 d2)[k]?).map fun v => ([.sc v], hb) := fun k hk => by
    have : ((m.wes es2).cells x2 d2).length = 15 := rfl
    simp [loadA, bb, this, show k + 1 ≤ 15 by omega, List.getElem?_eq_getElem (show k < ((m.wes es2).cells x2 d2).length by omega)]
  have ta : loadA hb true 3 [.sc (.ptr h.length 9 15)] = some ([.agg [.int .u64 m.bi, .int .u64 m.bt, .int .i64 m.bc]], hb) := by simp [loadA, ba, Ms.cells, Ms.wes]
  have tb : loadA hb true 3 [.sc (.ptr ha.length 9 15)] = some ([.agg [.int .u64 m.bi, .int .u64 m.bt, .int .i64 m.bc]], hb) := by simp [loadA, bb, Ms.cells, Ms.wes]
  have ec1 : ((m.wes es1).cells x1 d1).length = 15 := rfl
  have ec2 : ((m.wes es2).cells x2 d2).length = 15 := rfl
  have la0 := la 0 (by omega)
  have la1 := la 1 (by omega)
  have la2 := la 2 (by omega)
  have la3 := la 3 (by omega)
  have la4 := la 4 (by omega)
  have la5 := la 5 (by omega)
  have la6 := la 6 (by omega)
  have la7 := la 7 (by omega)
  have la8 := la 8 (by omega)
  have la12 := la 12 (by omega)
  have la13 := la 13 (by omega)
  have la14 := la 14 (by omega)
  have lb0 := lb 0 (by omega)
  have lb1 := lb 1 (by omega)
  have lb2 := lb 2 (by omega)
  have lb3 := lb 3 (by omega)
  have lb4 := lb 4 (by omega)
  have lb5 := lb 5 (by omega)
  have lb6 := lb 6 (by omega)
  have lb7 := lb 7 (by omega)
  have lb8 := lb 8 (by omega)
  have lb12 := lb 12 (by omega)
  have lb13 := lb 13 (by omega)
  have lb14 := lb 14 (by omega)
  clear la lb
  simp only [Ms.cells, Ms.wes, List.getElem?_cons_zero, List.getElem?_cons_succ, Option.map_some] at la0 la1 la2 la3 la4 la5 la6 la7 la8 la12 la13 la14 lb0 lb1 lb2 lb3 lb4 lb5 lb6 lb7 lb8 lb12 lb13 lb14
  refine callX rfl (by rfl : F 26 = some M.a26) (fun R RO RD RT E => ?_)
  clear E1 E2 D1 D2 ba bb ma mb mab
  generalize (m.wes es1).cells x1 d1 = C1 at *
  generalize (m.wes es2).cells x2 d2 = C2 at *
  simp [M.a26, E.eqs, ← hha, ← hhb, ec1, ec2, fa, fb, ta, tb, la0, la1, la2, la3, la4, la5, la6, la7, la8, la12, la13, la14, lb0, lb1, lb2, lb3, lb4, lb5, lb6, lb7, lb8, lb12, lb13, lb14, sm, s1, s2, tr]

theorem spec26 {m' : Ms} {x1 x2 d1 d2 : SV} (a1 : MsAt h m x1 d1) (a2 : MsAt h m' x2 d2) (hs : m'.plain = m.plain) : call 26 [[.agg (m.cells x1 d1)], [.agg (m'.cells x2 d2)]] h = some ([.sc (.bool true)], h) := by
  obtain ⟨e1, e2⟩ := Ms.of_plain hs
  have hD : m'.D = m.D := by rw [e1]; rfl
  have a2d := a2.dat
  rw [hD] at a2d
  have := same_wes (m := m) a1.es a2.es e2.symm a1.nes a1.dat a2d
  rw [← e1] at this
  exact this
end
end Go.Proofs.Ytoghoddofokekaa
