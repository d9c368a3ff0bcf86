/- Several chapters in one text. -/
import Derived.Test.YtoghoddofokekaaJ1
section
set_option linter.unusedVariables false
set_option linter.unusedSimpArgs false
set_option maxRecDepth 100000
namespace Go.Proofs.Ytoghoddofokekaa
open Go.Abs

/-- entries that are read: they, the place, what is wrong, an entry's own error -/
def rEnts (l : List UInt8) : Nat → Nat → Nat → List En × Nat × Nat × Nat
  | 0, a, bad => ([], a, bad, 0)
  | n + 1, a, bad =>
    if (rText l a bad 160).2.2 ≠ 0 then ([], (rText l a bad 160).2.1, (rText l a bad 160).2.2, 0)
    else if (rEnt (rText l a bad 160).1).2 ≠ 0 then ([], (rText l a bad 160).2.1, 0, (rEnt (rText l a bad 160).1).2)
    else ((rEnt (rText l a bad 160).1).1 :: (rEnts l n (rText l a bad 160).2.1 0).1, (rEnts l n (rText l a bad 160).2.1 0).2)
def pl (l : List En) : List (En × SV) := l.map fun e => (e, .nils)
/-- a message so far, the place, what is wrong, an entry's own error -/
structure Sm where
  m : Ms
  a : Nat
  bad : Nat
  err : Nat
/-- one field -/
def rFld (l : List UInt8) (j : Nat) (s : Sm) : Sm :=
  match j with
  | 0 => let r := rNum l s.a s.bad 72057594037927935; ⟨{ s.m with term := r.1 }, r.2.1, r.2.2, 0⟩
  | 1 => let r := rNum l s.a s.bad 72057594037927935; ⟨{ s.m with index := r.1 }, r.2.1, r.2.2, 0⟩
  | 2 => let r := rNum l s.a s.bad 72057594037927935; ⟨{ s.m with lt := r.1 }, r.2.1, r.2.2, 0⟩
  | 3 => let r := rNum l s.a s.bad 72057594037927935; ⟨{ s.m with cm := r.1 }, r.2.1, r.2.2, 0⟩
  | 4 => let r := rByte l s.a s.bad 1; ⟨{ s.m with rf := decide (r.1 = 1) }, r.2.1, r.2.2, 0⟩
  | 5 => let r := rNum l s.a s.bad 72057594037927935; let q := rNum l r.2.1 r.2.2 72057594037927935; let t := rByte l q.2.1 q.2.2 254; ⟨{ s.m with bi := r.1, bt := q.1, bc := (t.1 : Int) }, t.2.1, t.2.2, 0⟩
  | 6 => let r := rNum l s.a s.bad 32768; ⟨{ s.m with off := (r.1 : Int) }, r.2.1, r.2.2, 0⟩
  | 7 => let r := rByte l s.a s.bad 1; ⟨{ s.m with la := decide (r.1 = 1) }, r.2.1, r.2.2, 0⟩
  | 8 => let r := rText l s.a s.bad 256; ⟨{ s.m with D := r.1 }, r.2.1, r.2.2, 0⟩
  | _ => let r := rNum l s.a s.bad 4; let q := rEnts l r.1 r.2.1 r.2.2; ⟨s.m.wes (s.m.es ++ pl q.1), q.2.1, q.2.2.1, q.2.2.2⟩
def optR (l : List UInt8) (k : Int) (j : Nat) (s : Sm) : Sm := if flM k j then rFld l j s else s
def rFromM (l : List UInt8) (k : Int) : Nat → Nat → Sm → Sm
  | 0, _, s => s
  | n + 1, j, s => rFromM l k n (j + 1) (optR l k j s)
def Ms.zero : Ms := ⟨0, 0, 0, 0, 0, 0, [], 0, false, 0, 0, 0, 0, [], false⟩
/-- the head: kind, from, to -/
def rHead (l : List UInt8) : Sm :=
  let r := rByte l 0 0 6
  if r.1 = 0 then ⟨{ Ms.zero with k := (r.1 : Int) }, r.2.1, r.2.2, 0⟩ else
  let q := rByte l r.2.1 r.2.2 7
  let t := rByte l q.2.1 q.2.2 7
  ⟨{ Ms.zero with k := (r.1 : Int), f := (q.1 : Int), t := (t.1 : Int) }, t.2.1, t.2.2, 0⟩
def rBody (l : List UInt8) : Sm := rFromM l (rHead l).m.k 10 0 (rHead l)
def errS (l : List UInt8) (s : Sm) : Nat := if s.err ≠ 0 then s.err else rEnd l s.a s.bad
/-- a message that is read, and what is wrong -/
def rMsg (l : List UInt8) : Ms × Nat :=
  if 1024 < l.length then (Ms.zero, 12) else
  if unE l ≠ 0 then (Ms.zero, unE l) else
  let s := rBody (unB l)
  let e := if errS (unB l) s = 0 ∧ rightM s.m = false then 11 else errS (unB l) s
  if e = 0 then (s.m, 0) else (Ms.zero, e)

theorem okOld_len {n : Nat} {h h' : Heap} (ho : okOld n h h' = true) : True := trivial

/-- a row behind what is kept -/
theorem own_take {h : Heap} {y : SV} {e sz n k : Nat} {cs : List SV} (hy : Own h y e sz n cs) (hk : ∀ j, blk y j → j < k) : Own (h.take k) y e sz n cs := by
  rcases hy with h1 | ⟨b, rfl, hB, hl⟩
  · exact .inl h1
  · exact .inr ⟨b, rfl, by rw [take_get (hk b rfl)]; exact hB, hl⟩
theorem row_take {h : Heap} {y : SV} {sz n k : Nat} {cs : List SV} (hy : Row h y sz n cs) (hk : ∀ j, blk y j → j < k) : Row (h.take k) y sz n cs := by
  rcases hy with h1 | ⟨b, o, c, B, rfl, hB, rest⟩
  · exact .inl h1
  · exact .inr ⟨b, o, c, B, rfl, by rw [take_get (hk b rfl)]; exact hB, rest⟩
theorem below_blk {n : Nat} {v : SV} (hv : belowS n v = true) : ∀ j, blk v j → j < n := fun j hj => by
  cases v <;> simp only [blk] at hj
  subst hj
  exact blt_iff.1 hv

/-- a reader at i, a message at p, its rows behind N -/
structure RM (N : Nat) (hB h : Heap) (i : Nat) (x : SV) (l : List UInt8) (p : Nat) (m : Ms) (xe xd : SV) (a bad : Nat) : Prop where
  rd : Rd h i x l a bad
  at_ : h[p]? = some ⟨.var, m.cells xe xd⟩
  ne : p ≠ i
  off : ¬ blk x p
  iN : i < N
  pN : p < N
  xN : ∀ j, blk x j → j < N
  nN : N ≤ h.length
  ent : Own h xe 57 5 m.es.length (entC m.es)
  eN : ∀ j, blk xe j → N ≤ j
  dat : ∀ z ∈ m.es, Own h z.2 5 1 z.1.T.length (Go.Abs.bytes z.1.T) ∧ ∀ j, blk z.2 j → N ≤ j ∧ ¬ blk xe j
  d : Own h xd 5 1 m.D.length (Go.Abs.bytes m.D)
  dN : ∀ j, blk xd j → N ≤ j ∧ ¬ blk xe j
  trm : ∀ z ∈ m.es, z.1.term < 18446744073709551616 ∧ z.1.index < 18446744073709551616
  num : MsN m
  mod : Mod (fun _ => False) hB h
  bi : hB.length ≤ i
  bp : hB.length ≤ p
  few : m.es.length ≤ 2513169434844
  dl : m.D.length ≤ 140737488351232
/-- from one such state to a later one -/
structure RMS (h h' : Heap) (m m' : Ms) (xe xd xe' xd' : SV) : Prop where
  len : h.length ≤ h'.length
  ne : ∀ j, blk xe' j → blk xe j ∨ h.length ≤ j
  nd : ∀ j, blk xd' j → blk xd j ∨ h.length ≤ j
  nz : ∀ z ∈ m'.es, z ∈ m.es ∨ ∀ j, blk z.2 j → h.length ≤ j

section
variable {N : Nat} {hB h h' h'' : Heap} {i : Nat} {x : SV} {l : List UInt8} {p : Nat} {m m' m'' : Ms} {xe xd xe' xd' xe'' xd'' : SV} {a bad a' bad' : Nat}

theorem RMS.refl (h : Heap) (m : Ms) (xe xd : SV) : RMS h h m m xe xd xe xd := ⟨Nat.le_refl _, fun _ h => .inl h, fun _ h => .inl h, fun _ h => .inl h⟩
theorem RMS.trans (s : RMS h h' m m' xe xd xe' xd') (t : RMS h' h'' m' m'' xe' xd' xe'' xd'') : RMS h h'' m m'' xe xd xe'' xd'' :=
  ⟨Nat.le_trans s.len t.len, fun j hj => (t.ne j hj).elim (s.ne j) fun e => .inr (Nat.le_trans s.len e), fun j hj => (t.nd j hj).elim (s.nd j) fun e => .inr (Nat.le_trans s.len e),
    fun z hz => (t.nz z hz).elim (s.nz z) fun e => .inr fun j hj => Nat.le_trans s.len (e j hj)⟩

theorem RM.at' (r : RM N hB h i x l p m xe xd a bad) : MsAt h m xe xd :=
  ⟨⟨r.ent.row, fun z hz => (r.dat z hz).1.row, r.trm⟩, r.d.row, r.num.index, r.few, r.dl⟩

theorem entC_mem {es : List (En × SV)} {v : SV} (hv : v ∈ entC es) : (∃ z ∈ es, v = z.2) ∨ ∀ j, ¬ blk v j := by
  unfold entC at hv
  obtain ⟨z, hz, hv⟩ := List.mem_flatMap.1 hv
  simp only [En.c, eC, List.mem_cons, List.not_mem_nil, or_false] at hv
  rcases hv with rfl | rfl | rfl | rfl | rfl
  · exact .inr fun j h => h
  · exact .inr fun j h => h
  · exact .inr fun j h => h
  · exact .inl ⟨z, hz, rfl⟩
  · exact .inr fun j h => h
theorem mem_entC {es : List (En × SV)} {z : En × SV} (hz : z ∈ es) : z.2 ∈ entC es := by
  unfold entC
  exact List.mem_flatMap.2 ⟨z, hz, by simp [En.c, eC]⟩

theorem RM.trim (r : RM N hB h i x l p m xe xd a bad) (r' : RM N hB h' i x l p m' xe' xd' a' bad') (s : RMS h h' m m' xe xd xe' xd') (t : TV) :
    RM N hB (Go.Abs.trim h h' t) i x l p m' xe' xd' a' bad' ∧ RMS h (Go.Abs.trim h h' t) m m' xe xd xe' xd' := by
  unfold Go.Abs.trim
  split
  case isFalse => exact ⟨r', s⟩
  case isTrue hc =>
    simp only [Bool.and_eq_true] at hc
    obtain ⟨_, ho⟩ := hc
    have hip := lt_of_get r.at_
    have hlen : (h'.take h.length).length = h.length := by rw [List.length_take]; have := s.len; omega
    have hcell := (okOld_get ho).2 p _ _ r.at_ r'.at_
    have hxe : ∀ j, blk xe' j → j < h.length := fun j hj => by
      rcases hcell with hc | hc
      · exact below_blk (hc xe' (by simp [Ms.cells])) j hj
      · have : xe = xe' := by have := congrArg (fun l => l[6]?) hc; simpa [Ms.cells] using this
        rw [← this] at hj
        exact r.ent.lt j hj
    have hxd : ∀ j, blk xd' j → j < h.length := fun j hj => by
      rcases hcell with hc | hc
      · exact below_blk (hc xd' (by simp [Ms.cells])) j hj
      · have : xd = xd' := by have := congrArg (fun l => l[13]?) hc; simpa [Ms.cells] using this
        rw [← this] at hj
        exact r.d.lt j hj
    have hz : ∀ z ∈ m'.es, ∀ j, blk z.2 j → j < h.length := fun z hz j hj => by
      rcases s.nz z hz with h1 | h1
      · exact (r.dat z h1).1.lt j hj
      · rcases r'.ent with ⟨_, h2, _⟩ | ⟨b, hb, hB', hl⟩
        · rw [List.eq_nil_of_length_eq_zero h2] at hz
          simp at hz
        · have hbl := hxe b (by rw [hb]; rfl)
          obtain ⟨C, hC⟩ : ∃ C, h[b]? = some C := ⟨_, List.getElem?_eq_getElem hbl⟩
          rcases (okOld_get ho).2 b _ _ hC hB' with h2 | h2
          · exact below_blk (h2 z.2 (mem_entC hz)) j hj
          · rcases s.ne b (by rw [hb]; rfl) with h3 | h3
            · rcases r.ent with ⟨hx, _, _⟩ | ⟨b2, hx, hB2, _⟩
              · rw [hx] at h3; exact h3.elim
              · rw [hx] at h3
                have : b = b2 := h3
                subst this
                rw [hC] at hB2
                injection hB2 with hB2
                subst hB2
                have h2 : entC m.es = entC m'.es := h2
                have hm : z.2 ∈ entC m.es := by rw [h2]; exact mem_entC hz
                rcases entC_mem hm with ⟨y, hy, e⟩ | h4
                · rw [e] at hj
                  exact (r.dat y hy).1.lt j hj
                · exact absurd hj (h4 j)
            · omega
    have mm : Mod (fun _ => False) hB (h'.take h.length) := ⟨by rw [hlen]; exact r.mod.1, fun j hj hn => by rw [take_get (Nat.lt_of_lt_of_le hj r.mod.1)]; exact r'.mod.2 j hj hn⟩
    refine ⟨⟨⟨by rw [take_get r.rd.lt]; exact r'.rd.at_, row_take r'.rd.row fun j hj => Nat.lt_of_lt_of_le (r.xN j hj) r.nN, r.rd.off, r.rd.len, r'.rd.le, r'.rd.small⟩, by rw [take_get hip]; exact r'.at_, r.ne, r.off, r.iN, r.pN, r.xN, by rw [hlen]; exact r.nN,
      own_take r'.ent hxe, r'.eN, fun z hz' => ⟨own_take (r'.dat z hz').1 (hz z hz'), (r'.dat z hz').2⟩, own_take r'.d hxd, r'.dN, r'.trm, r'.num, mm, r.bi, r.bp, r'.few, r'.dl⟩,
      ⟨by rw [hlen]; exact Nat.le_refl _, s.ne, s.nd, s.nz⟩⟩

theorem RM.cell (r : RM N hB h i x l p m xe xd a bad) {h1 : Heap} (md : Mod (fun j => j = i) h h1) : h1[p]? = some ⟨.var, m.cells xe xd⟩ := md.get r.at_ r.ne

/-- a field that is no entries was read -/
theorem RM.upd (r : RM N hB h i x l p m xe xd a bad) {h1 : Heap} (md : Mod (fun j => j = i) h h1) (rd : Rd h1 i x l a' bad') (hes : m'.es = m.es) (hD : Own h1 xd' 5 1 m'.D.length (Go.Abs.bytes m'.D)) (hdn : xd' = xd ∨ ∀ j, blk xd' j → h.length ≤ j) (hn : MsN m') (hdl : m'.D.length ≤ 140737488351232) :
    RM N hB (h1.set p ⟨.var, m'.cells xe xd'⟩) i x l p m' xe xd' a' bad' ∧ RMS h (h1.set p ⟨.var, m'.cells xe xd'⟩) m m' xe xd xe xd' := by
  have hp := r.cell md
  have m2 : Mod (fun j => j = p) h1 (h1.set p ⟨.var, m'.cells xe xd'⟩) := Mod.set _ _ rfl
  have m12 : Mod (fun j => j = i ∨ j = p) h (h1.set p ⟨.var, m'.cells xe xd'⟩) := (md.mono fun _ _ e => .inl e).trans m2 fun _ _ e => .inr e
  have hN : ∀ j, N ≤ j → ¬ (j = i ∨ j = p) := fun j hj e => by have := r.iN; have := r.pN; omega
  have hdN : ∀ j, blk xd' j → N ≤ j ∧ ¬ blk xe j := fun j hj => by
    rcases hdn with rfl | hdn
    · exact r.dN j hj
    · have h1 := hdn j hj
      exact ⟨Nat.le_trans r.nN h1, fun hb => by have := r.ent.lt j hb; omega⟩
  refine ⟨⟨rd.beside m2 (fun e => r.ne e.symm) fun j hj e => r.off (e ▸ hj), get_set_same hp, r.ne, r.off, r.iN, r.pN, r.xN, Nat.le_trans r.nN m12.1, ?_, r.eN, fun z hz => ?_, ?_, hdN, ?_, hn, ?_, r.bi, r.bp, by rw [hes]; exact r.few, hdl⟩, ⟨m12.1, fun j hj => .inl hj, fun j hj => ?_, fun z hz => .inl (hes ▸ hz)⟩⟩
  · rw [hes]; exact r.ent.mod m12 fun j hj => hN j (r.eN j hj)
  · rw [hes] at hz
    exact ⟨(r.dat z hz).1.mod m12 fun j hj => hN j ((r.dat z hz).2 j hj).1, (r.dat z hz).2⟩
  · exact hD.mod m2 fun j hj e => by have := (hdN j hj).1; have := r.pN; omega
  · rw [hes]; exact r.trm
  · exact r.mod.trans m12 fun j hj e => by have := r.bi; have := r.bp; omega
  · rcases hdn with rfl | hdn
    · exact .inl hj
    · exact .inr (hdn j hj)

/-- a number was read -/
theorem RM.numU (r : RM N hB h i x l p m xe xd a bad) {h1 : Heap} (s : RdS h i x l h1 a' bad') (hes : m'.es = m.es) (hD : m'.D = m.D) (hn : MsN m') :
    RM N hB (h1.set p ⟨.var, m'.cells xe xd⟩) i x l p m' xe xd a' bad' ∧ RMS h (h1.set p ⟨.var, m'.cells xe xd⟩) m m' xe xd xe xd :=
  r.upd s.mod s.rd hes (by rw [hD]; exact r.d.mod s.mod fun j hj e => by have := (r.dN j hj).1; have := r.iN; omega) (.inl rfl) hn (by rw [hD]; exact r.dl)

/-- an entry is appended: h1 is behind its reading, z its data -/
theorem RM.push (r : RM N hB h i x l p m xe xd a bad) {h1 : Heap} {z : En × SV} (md : Mod (fun j => j = i) h h1) (rd : Rd h1 i x l a' bad') (hz : Own h1 z.2 5 1 z.1.T.length (Go.Abs.bytes z.1.T)) (hzn : ∀ j, blk z.2 j → h.length ≤ j) (ht : z.1.term < 18446744073709551616 ∧ z.1.index < 18446744073709551616) (hl : m.es.length < 1000000) :
    appA h1 57 5 56 (.sc xe) (.imm 1 (z.1.c z.2)) = some ([.sc (appV h1 xe 5 1)], appH h1 xe 57 5 1 (z.1.c z.2)) ∧
    (appH h1 xe 57 5 1 (z.1.c z.2))[p]? = some ⟨.var, m.cells xe xd⟩ ∧
    RM N hB ((appH h1 xe 57 5 1 (z.1.c z.2)).set p ⟨.var, (m.wes (m.es ++ [z])).cells (appV h1 xe 5 1) xd⟩) i x l p (m.wes (m.es ++ [z])) (appV h1 xe 5 1) xd a' bad' ∧
    RMS h ((appH h1 xe 57 5 1 (z.1.c z.2)).set p ⟨.var, (m.wes (m.es ++ [z])).cells (appV h1 xe 5 1) xd⟩) m (m.wes (m.es ++ [z])) xe xd (appV h1 xe 5 1) xd := by
  have hp := r.cell md
  have iN := r.iN
  have pN := r.pN
  have own := r.ent.mod md fun j hj e => by have := r.eN j hj; omega
  have am := app_mod (h := h1) (x := xe) (sz := 5) (e := 57) (m := 1) (ys := z.1.c z.2)
  have hp2 := am.get hp fun hb => by have := r.eN p hb; omega
  have own2 := app_own (e := 57) own (m := 1) (ys := z.1.c z.2) rfl
  have qa := appA_own (by_ := 56) (e := 57) (y := .imm 1 (z.1.c z.2)) own (m := 1) (ys := z.1.c z.2) rfl (by simp [lim]; omega)
  have bnew : ∀ j, blk (appV h1 xe 5 1) j → blk xe j ∨ j = h1.length := fun j hj => blk_app j hj
  have hlen := md.1
  generalize appV h1 xe 5 1 = xe2 at *
  generalize hg2 : appH h1 xe 57 5 1 (z.1.c z.2) = h2 at *
  have m3 : Mod (fun j => j = p) h2 (h2.set p ⟨.var, (m.wes (m.es ++ [z])).cells xe2 xd⟩) := Mod.set _ _ rfl
  have mA : Mod (fun j => blk xe j ∨ j = p) h1 (h2.set p ⟨.var, (m.wes (m.es ++ [z])).cells xe2 xd⟩) := (am.mono fun _ _ e => .inl e).trans m3 fun _ _ e => .inr e
  have mT : Mod (fun j => j = i ∨ blk xe j ∨ j = p) h (h2.set p ⟨.var, (m.wes (m.es ++ [z])).cells xe2 xd⟩) := (md.mono fun _ _ e => .inl e).trans mA fun _ _ e => .inr e
  have eN2 : ∀ j, blk xe2 j → N ≤ j := fun j hj => by
    rcases bnew j hj with h3 | h3
    · exact r.eN j h3
    · have := r.nN; omega
  have sep : ∀ (v : SV), (∀ j, blk v j → N ≤ j ∧ ¬ blk xe j) → (∀ j, blk v j → j < h1.length) → ∀ j, blk v j → N ≤ j ∧ ¬ blk xe2 j := fun v h3 h4 j hj => by
    refine ⟨(h3 j hj).1, fun hb => ?_⟩
    rcases bnew j hb with h5 | h5
    · exact (h3 j hj).2 h5
    · have := h4 j hj; omega
  have keep : ∀ {v : SV} {e sz n : Nat} {cs : List SV}, Own h1 v e sz n cs → (∀ j, blk v j → N ≤ j ∧ ¬ blk xe j) → Own (h2.set p ⟨.var, (m.wes (m.es ++ [z])).cells xe2 xd⟩) v e sz n cs := fun ho h3 => ho.mod mA fun j hj e => by
    rcases e with e | e
    · exact (h3 j hj).2 e
    · have := (h3 j hj).1; omega
  have zN : ∀ j, blk z.2 j → N ≤ j ∧ ¬ blk xe j := fun j hj => by
    have h3 := hzn j hj
    exact ⟨Nat.le_trans r.nN h3, fun hb => by have := r.ent.lt j hb; omega⟩
  have old : ∀ {v : SV} {e sz n : Nat} {cs : List SV}, Own h v e sz n cs → (∀ j, blk v j → N ≤ j ∧ ¬ blk xe j) → Own h1 v e sz n cs := fun ho h3 => ho.mod md fun j hj e => by have := (h3 j hj).1; omega
  refine ⟨?_, hp2, ⟨?_, get_set_same hp2, r.ne, r.off, r.iN, r.pN, r.xN, Nat.le_trans r.nN mT.1, ?_, eN2, fun w hw => ?_, keep (old r.d r.dN) r.dN, ?_, fun w hw => ?_, ⟨r.num.term, r.num.index, r.num.lt, r.num.cm, r.num.bi, r.num.bt, r.num.off⟩, ?_, r.bi, r.bp, ?_, r.dl⟩, ⟨mT.1, fun j hj => (bnew j hj).imp id fun e => by omega, fun j hj => .inl hj, fun w hw => ?_⟩⟩
  · exact qa
  · exact (rd.beside am (fun hb => by have := r.eN i hb; omega) fun j hj hb => by have := r.eN j hb; have := r.xN j hj; omega).beside m3 (fun e => r.ne e.symm) fun j hj e => r.off (e ▸ hj)
  · have := own2.mod m3 fun j hj e => by have := eN2 j hj; omega
    show Own _ xe2 57 5 (m.es ++ [z]).length (entC (m.es ++ [z]))
    rw [entC_snoc, List.length_append]
    exact this
  · rcases List.mem_append.1 hw with h3 | h3
    · have q := (r.dat w h3)
      exact ⟨keep (old q.1 q.2) q.2, sep w.2 q.2 (fun j hj => (old q.1 q.2).lt j hj)⟩
    · simp at h3
      subst h3
      exact ⟨keep hz zN, sep w.2 zN (fun j hj => hz.lt j hj)⟩
  · exact sep xd r.dN (fun j hj => (old r.d r.dN).lt j hj)
  · rcases List.mem_append.1 hw with h3 | h3
    · exact r.trm w h3
    · simp at h3
      subst h3
      exact ht
  · exact r.mod.trans mT fun j hj e => by
      have := r.bi
      have := r.bp
      rcases e with e | e | e
      · omega
      · have := r.eN j e; omega
      · omega
  · show (m.es ++ [z]).length ≤ 2513169434844
    simp
    omega
  · rcases List.mem_append.1 hw with h3 | h3
    · exact .inl h3
    · simp at h3
      subst h3
      exact .inr hzn
end
end Go.Proofs.Ytoghoddofokekaa
end

section
set_option linter.unusedVariables false
set_option linter.unusedSimpArgs false
set_option maxRecDepth 100000
namespace Go.Proofs.Ytoghoddofokekaa
open Go.Abs

theorem rNum_most (l : List UInt8) (a bad most : Nat) : (rNum l a bad most).1 ≤ most := by
  unfold rNum rN
  split
  · simp
  · split
    · simp
    · split
      · simp
      · simp; omega
theorem rNum_pos {l : List UInt8} {a bad most : Nat} (h : 0 < (rNum l a bad most).1) : (rNum l a bad most).2.2 = 0 := by
  revert h
  unfold rNum rN
  split
  · simp
  · split
    · simp
    · split <;> simp
theorem rText_most (l : List UInt8) (a bad : Nat) (most : Nat) : (rText l a bad most).1.length ≤ most := by
  have := rNum_most l a bad most
  have e : (max (most : Int) 0).toNat = most := by omega
  unfold rText
  rw [e]
  simp only
  split
  · simp
  · split
    · simp
    · simp
      omega
theorem rEnt_lt (l : List UInt8) : (rEnt l).1.term < 18446744073709551616 ∧ (rEnt l).1.index < 18446744073709551616 := by
  have key : ∀ (e : Nat) (c : En), c.term < 18446744073709551616 → c.index < 18446744073709551616 → (if e = 0 then (c, 0) else (En.zero, e)).1.term < 18446744073709551616 ∧ (if e = 0 then (c, 0) else (En.zero, e)).1.index < 18446744073709551616 := fun e c h1 h2 => by
    split
    · exact ⟨h1, h2⟩
    · exact ⟨by simp [En.zero], by simp [En.zero]⟩
  unfold rEnt
  split
  · exact ⟨by simp [En.zero], by simp [En.zero]⟩
  · exact key _ _ (rNum_lt _ _ _ _).1 (rNum_lt _ _ _ _).1

section
variable {h : Heap} {i : Nat} {x : SV} {l : List UInt8} {a bad : Nat}

theorem failed_loop (hl : l.length ≤ 1024) : ∀ (n k : Nat) (H : Heap) (a : Nat) (e : Env), k + n = 1024 → Rd H i x l a bad → (bad = 0 → l.length - a ≤ n) → e.get 3 = [.sc (.ptr i 0 3)] → e.get 4 = [.sc (.int .i64 k)] →
    ∃ (a' : Nat) (e' : Env), loopE F O (.loop [3, 4] M.b119_0) e H = some (.exit 0, e', setR H i x a' bad) ∧ e'.get 3 = [.sc (.ptr i 0 3)] ∧ Rd (setR H i x a' bad) i x l a' bad ∧ rEnd l a' bad = bad
  | 0, k, H, a, e, hk, r, hb, e3, e4 => by
    have : k = 1024 := by omega
    subst this
    refine ⟨a, [(3, [.sc (.ptr i 0 3)]), (4, [.sc (.int .i64 1024)]), (13, [.sc (.bool false)])], ?_, rfl, by rw [r.same]; exact r, ?_⟩
    · rw [r.same]
      refine exitM fun R RO RD RT E => ?_
      have e4 : e.get 4 = [.sc (.int .i64 1024)] := e4
      simp [M.b119_0, E.eqs, e3, e4]
    · unfold rEnd
      rw [if_neg]
      rintro ⟨h1, h2⟩
      have := hb h1
      omega
  | n + 1, k, H, a, e, hk, r, hb, e3, e4 => by
    have q := spec77 r
    have hk1 : (k : Int) < 1024 := by omega
    by_cases hE : rEnd l a bad = 11
    · have hstep : ∃ v a2, rByte l a bad 255 = (v, a2, bad) ∧ a2 ≤ l.length ∧ (bad = 0 → l.length - a2 ≤ n) := by
        by_cases h0 : bad = 0
        · subst h0
          unfold rEnd at hE
          split at hE
          · rename_i h1
            obtain ⟨b, hb'⟩ : ∃ b, l[a]? = some b := ⟨_, List.getElem?_eq_getElem h1.2⟩
            have := b.toNat_lt
            refine ⟨b.toNat, a + 1, ?_, by omega, fun _ => by have := hb rfl; omega⟩
            unfold rByte
            rw [if_neg (by simp), hb']
            simp only
            rw [if_neg (by omega)]
          · omega
        · refine ⟨0, a, ?_, r.le, fun h => absurd h h0⟩
          unfold rByte
          rw [if_pos h0]
      obtain ⟨v, a2, hv, ha2, hb2⟩ := hstep
      have q2 := spec74 r (most := 255) (by omega)
      rw [hv] at q2
      have z1 : ((255 : Nat) : Int) = 255 := rfl
      rw [z1] at q2
      simp only at q2
      obtain ⟨a', e', lo, g3, r', hr'⟩ := failed_loop hl n (k + 1) (setR H i x a2 bad) a2 [(3, [.sc (.ptr i 0 3)]), (4, [.sc (.int .i64 ((k + 1 : Nat) : Int))])] (by omega) (r.set ha2 r.small) hb2 rfl rfl
      rw [setR_set] at lo r'
      refine ⟨a', e', stepM (fun R RO RD RT E => ?_) lo, g3, r', hr'⟩
      clear lo r' hr'
      have w1 : IntKind.i64.wrap ((k : Int) + 1) = (k : Int) + 1 := wi64 (by omega) (by omega)
      rw [hE] at q
      simp [M.b119_0, E.eqs, e3, e4, hk1, q, q2, w1]
    · have hE' : ¬ ((rEnd l a bad : Nat) : Int) = 11 := by omega
      refine ⟨a, [(3, [.sc (.ptr i 0 3)]), (4, [.sc (.int .i64 k)]), (13, [.sc (.bool false)])], ?_, rfl, by rw [r.same]; exact r, ?_⟩
      · rw [r.same]
        refine exitM fun R RO RD RT E => ?_
        generalize rEnd l a bad = re at *
        simp [M.b119_0, E.eqs, e3, e4, hk1, q, hE, hE']
      · unfold rEnd at hE ⊢
        split at hE
        · omega
        · rename_i h1; rw [if_neg h1]

theorem spec119 (r : Rd h i x l a bad) (hl : l.length ≤ 1024) : call 119 [[.sc (.ptr i 0 3)]] h = some ([.sc (.int .i64 bad)], h) := by
  obtain ⟨h1, hh1⟩ : ∃ h1 : Heap, h1 = h ++ [⟨.var, [x, .int .i64 a, .int .i64 bad]⟩] := ⟨_, rfl⟩
  have m1 : Mod (fun _ => False) h h1 := by rw [hh1]; exact Mod.app _ _ _
  have b1 : h1[h.length]? = some ⟨.var, [x, .int .i64 a, .int .i64 bad]⟩ := by rw [hh1]; simp
  have r1 : Rd h1 h.length x l a bad := ⟨b1, r.row.mod m1 fun _ _ h => h, fun hb => by have := r.row.lt _ hb; omega, r.len, r.le, r.small⟩
  obtain ⟨a', e', lo, g3, r', hr'⟩ := failed_loop hl 1024 0 h1 a [(3, [.sc (.ptr h.length 0 3)]), (4, [.sc (.int .i64 0)])] (by omega) r1 (fun _ => by omega) rfl rfl
  have lo := loop_run lo
  have q := spec77 r'
  rw [hr'] at q
  have m2 : Mod (fun _ => False) h (setR h1 h.length x a' bad) := m1.trans (setR_mod h1 h.length x a' bad) fun j hj e => by omega
  have tr : Go.Abs.trim h (setR h1 h.length x a' bad) [.sc (.int .i64 bad)] = h := trim_mod rfl m2 fun _ _ h => h
  have rn := r.nil
  have l3 : loadA h true 3 [.sc (.ptr i 0 3)] = some ([.agg [x, .int .i64 a, .int .i64 bad]], h) := by simp [loadA, r.at_]
  refine callX rfl (by rfl : F 119 = some M.a119) (fun R RO RD RT E => ?_)
  have lo := E.run lo
  clear r' r1
  generalize setR h1 h.length x a' bad = h2 at *
  simp [M.a119, E.eqs, rn, l3, storeA, ← hh1, lo, g3, q, tr]
end

def Vok (v err bad : Nat) : Prop := (err ≠ 0 → v = err) ∧ (err = 0 → v = 0 ∨ (v = bad ∧ bad ≠ 0))

section
variable {N : Nat} {hB h : Heap} {i : Nat} {x : SV} {l : List UInt8} {p : Nat} {m : Ms} {xe xd : SV} {a bad a' bad' : Nat}

/-- the reader alone went on -/
theorem RM.go (r : RM N hB h i x l p m xe xd a bad) {h1 : Heap} (md : Mod (fun j => j = i) h h1) (rd : Rd h1 i x l a' bad') : RM N hB h1 i x l p m xe xd a' bad' ∧ RMS h h1 m m xe xd xe xd := by
  have iN := r.iN
  refine ⟨⟨rd, r.cell md, r.ne, r.off, r.iN, r.pN, r.xN, Nat.le_trans r.nN md.1, r.ent.mod md fun j hj e => by have := r.eN j hj; omega, r.eN, fun z hz => ⟨(r.dat z hz).1.mod md fun j hj e => by have := ((r.dat z hz).2 j hj).1; omega, (r.dat z hz).2⟩,
    r.d.mod md fun j hj e => by have := (r.dN j hj).1; omega, r.dN, r.trm, r.num, r.mod.trans md fun j hj e => by have := r.bi; omega, r.bi, r.bp, r.few, r.dl⟩, ⟨md.1, fun _ h => .inl h, fun _ h => .inl h, fun _ h => .inl h⟩⟩

theorem Ms.wes_wes (m : Ms) (a b : List (En × SV)) : (m.wes a).wes b = m.wes b := rfl

set_option maxHeartbeats 2000000 in
theorem rents_loop (hl : l.length ≤ 1024) : ∀ (n : Nat) (H : Heap) (m : Ms) (xe : SV) (a bad : Nat) (e : Env), RM N hB H i x l p m xe xd a bad → (0 < n → bad = 0) → m.es.length + n ≤ 1000 → e.get 0 = [.sc (.ptr i 0 3)] → e.get 1 = [.sc (.ptr p 0 15)] → e.get 5 = [.sc (.int .u64 n)] →
    ∃ (H' : Heap) (ws : List (En × SV)) (xe' : SV) (r : AEx × Env × Heap), loopE F O (.loop [0, 1, 5] M.b118_0) e H = some r ∧ RM N hB H' i x l p (m.wes (m.es ++ ws)) xe' xd (rEnts l n a bad).2.1 (rEnts l n a bad).2.2.1 ∧ ws.map (·.1) = (rEnts l n a bad).1 ∧ RMS H H' m (m.wes (m.es ++ ws)) xe xd xe' xd ∧
      ((∃ e', r = (.exit 0, e', H') ∧ (rEnts l n a bad).2.2.2 = 0) ∨ ∃ v : Nat, r = (.ret, [(4, [.sc (.int .i64 v)])], H') ∧ Vok v (rEnts l n a bad).2.2.2 (rEnts l n a bad).2.2.1)
  | 0, H, m, xe, a, bad, e, r, hb, hn, e0, e1, e5 => by
    have e5 : e.get 5 = [.sc (.int .u64 0)] := e5
    have hw : m.wes (m.es ++ []) = m := by rw [List.append_nil]; rfl
    refine ⟨H, [], xe, (.exit 0, [(0, [.sc (.ptr i 0 3)]), (1, [.sc (.ptr p 0 15)]), (5, [.sc (.int .u64 0)]), (13, [.sc (.bool false)])], H), exitM fun R RO RD RT E => ?_, ?_, rfl, ?_, .inl ⟨_, rfl, rfl⟩⟩
    · simp [M.b118_0, E.eqs, e0, e1, e5]
    · rw [hw]; exact r
    · rw [hw]; exact RMS.refl _ _ _ _
  | n + 1, H, m, xe, a, bad, e, r, hb, hn, e0, e1, e5 => by
    have h0 := hb (by omega)
    subst h0
    have hn0 : (0 : Int) < ((n + 1 : Nat) : Int) := by omega
    have wn : IntKind.u64.wrap (((n + 1 : Nat) : Int) - 1) = (n : Int) := by rw [wu64 (by omega) (by omega)]; omega
    obtain ⟨h1, y, qT, t⟩ := spec95 r.rd (most := 160) (by omega) (by omega)
    have hTl := rText_most l a 0 160
    unfold rEnts
    generalize hrt : rText l a 0 160 = rt at *
    obtain ⟨T, a1, b1⟩ := rt
    simp only at t hTl ⊢
    have qF := spec119 t.rd hl
    generalize hn1 : ((n + 1 : Nat) : Int) = nn at *
    by_cases hb1 : b1 = 0
    · subst hb1
      rw [if_neg (by simp)]
      obtain ⟨h2, z, qE, f2⟩ := spec45 t.own.row (by omega)
      obtain ⟨h3, hh3⟩ : ∃ h3 : Heap, h3 = h2 ++ [⟨.var, (rEnt T).1.c z⟩] := ⟨_, rfl⟩
      have m3 : Mod (fun _ => False) h2 h3 := by rw [hh3]; exact Mod.app _ _ _
      have m13 : Mod (fun _ => False) h1 h3 := f2.mod.trans m3 fun _ _ h => h
      have mH : Mod (fun j => j = i) H h3 := t.mod.trans m13 fun _ _ h => h.elim
      have rd3 := t.rd.beside m13 (fun h => h) fun _ _ h => h
      have b3 : h3[h2.length]? = some ⟨.var, (rEnt T).1.c z⟩ := by rw [hh3]; simp
      have hz3 := f2.own.mod m3 fun _ _ h => h
      have d1 : ((rEnt T).1.c z).length = 5 := rfl
      have d2 : ((rEnt T).1.c z).take 5 = (rEnt T).1.c z := rfl
      have d0 : setCells [.int .i64 0, .int .u64 0, .int .u64 0, .nils, .int .i64 0] 0 ((rEnt T).1.c z) = (rEnt T).1.c z := rfl
      have l5 : loadA h3 true 5 [.sc (.ptr h2.length 0 5)] = some ([.agg ((rEnt T).1.c z)], h3) := by simp [loadA, b3, d1, d2]
      have st0 : storeA (h2 ++ [⟨.var, [.int .i64 0, .int .u64 0, .int .u64 0, .nils, .int .i64 0]⟩]) 5 [.sc (.ptr h2.length 0 5)] [.agg ((rEnt T).1.c z)] = some ([], h3) := by rw [hh3]; simp [storeA, d0, d1]
      have hlt := rEnt_lt T
      by_cases he : (rEnt T).2 = 0
      · rw [if_neg (by simp [he])]
        rw [he] at qE
        obtain ⟨p1, p2, r4, s4⟩ := r.push (z := ((rEnt T).1, z)) mH rd3 hz3 (fun j hj => Nat.le_trans t.mod.1 (f2.new j hj)) hlt (by omega)
        have p3 := r.cell mH
        have cl : ∀ (m' : Ms) (u v : SV), (m'.cells u v).length = 15 := fun _ _ _ => rfl
        have c6 : ∀ hh, (m.cells xe xd)[6]'hh = xe := fun _ => rfl
        have st : (m.cells xe xd).set 6 (appV h3 xe 5 1) = (m.wes (m.es ++ [((rEnt T).1, z)])).cells (appV h3 xe 5 1) xd := rfl
        simp only at p1 p2 r4 s4
        generalize hxe4 : appV h3 xe 5 1 = xe4 at *
        generalize appH h3 xe 57 5 1 ((rEnt T).1.c z) = h4 at *
        obtain ⟨h5, hh5⟩ : ∃ h5 : Heap, h5 = h4.set p ⟨.var, (m.wes (m.es ++ [((rEnt T).1, z)])).cells xe4 xd⟩ := ⟨_, rfl⟩
        rw [← hh5] at r4 s4
        obtain ⟨H', ws, xe', rr, lo, rf, hw, sf, out⟩ := rents_loop hl n h5 _ xe4 a1 0 [(0, [.sc (.ptr i 0 3)]), (1, [.sc (.ptr p 0 15)]), (5, [.sc (.int .u64 (n : Int))])] r4 (fun _ => rfl) (by show (m.es ++ [((rEnt T).1, z)]).length + n ≤ 1000; simp; omega) rfl rfl rfl
        have ew : (m.wes (m.es ++ [((rEnt T).1, z)])).wes ((m.wes (m.es ++ [((rEnt T).1, z)])).es ++ ws) = m.wes (m.es ++ (((rEnt T).1, z) :: ws)) := by
          simp [Ms.wes]
        rw [ew] at rf sf
        refine ⟨H', ((rEnt T).1, z) :: ws, xe', rr, stepM (fun R RO RD RT E => ?_) lo, rf, by simp [hw], s4.trans sf, out⟩
        clear lo rf sf out r4 s4 f2 t rd3 mH m13 m3 hz3
        have l6 : loadA h3 false 1 [.sc (.ptr p 6 15)] = some ([.sc xe], h3) := by simp [loadA, p3, cl, c6]
        have s6 : storeA h4 1 [.sc (.ptr p 6 15)] [.sc xe4] = some ([], h5) := by
          rw [hh5]
          simp [storeA, p2, cl, st]
        have n1 : nilckA h3 [.sc (.ptr p 0 15)] = some ([.sc (.ptr p 0 15)], h3) := by simp [nilckA, freshB_of p3 rfl, freshB, p3, cl]
        have n2 : nilckA h4 [.sc (.ptr p 0 15)] = some ([.sc (.ptr p 0 15)], h4) := by simp [nilckA, freshB, p2, cl]
        have g1 : fldA h3 6 [.sc (.ptr p 0 15)] = some ([.sc (.ptr p 6 15)], h3) := by simp [fldA, freshB, p3, cl]
        have g2 : fldA h4 6 [.sc (.ptr p 0 15)] = some ([.sc (.ptr p 6 15)], h4) := by simp [fldA, freshB, p2, cl]
        generalize (rEnt T).1.c z = zc at *
        simp [M.b118_0, E.eqs, e0, e1, e5, hn0, qT, qF, qE, st0, d0, d1, l5, l6, n1, n2, g1, g2, p1, s6, wn]
      · rw [if_pos he]
        have he' : ¬ (((rEnt T).2 : Nat) : Int) = 0 := by omega
        obtain ⟨r3, s3⟩ := r.go mH rd3
        have hw : m.wes (m.es ++ []) = m := by rw [List.append_nil]; rfl
        refine ⟨h3, [], xe, (.ret, [(4, [.sc (.int .i64 ((rEnt T).2 : Nat))])], h3), retM fun R RO RD RT E => ?_, by rw [hw]; exact r3, rfl, by rw [hw]; exact s3, .inr ⟨_, rfl, fun _ => rfl, fun h => absurd h he⟩⟩
        clear r3 s3 f2 t rd3 mH m13 m3 hz3
        generalize (rEnt T).2 = er at *
        generalize (rEnt T).1.c z = zc at *
        simp [M.b118_0, E.eqs, e0, e1, e5, hn0, qT, qF, qE, st0, he, he']
    · rw [if_pos hb1]
      have hb1' : ¬ ((b1 : Nat) : Int) = 0 := by omega
      obtain ⟨r3, s3⟩ := r.go t.mod t.rd
      have hw : m.wes (m.es ++ []) = m := by rw [List.append_nil]; rfl
      refine ⟨h1, [], xe, (.ret, [(4, [.sc (.int .i64 (b1 : Nat))])], h1), retM fun R RO RD RT E => ?_, by rw [hw]; exact r3, rfl, by rw [hw]; exact s3, .inr ⟨b1, rfl, fun h => absurd rfl h, fun _ => .inr ⟨rfl, hb1⟩⟩⟩
      clear r3 s3 t
      simp [M.b118_0, E.eqs, e0, e1, e5, hn0, qT, qF, hb1, hb1']

theorem plain_app {m : Ms} {ws : List (En × SV)} {q : List En} (h : ws.map (·.1) = q) : (m.wes (m.es ++ ws)).plain = m.plain.wes (m.plain.es ++ pl q) := by
  subst h
  simp [Ms.plain, Ms.wes, Ms.ents, pl]

theorem spec118 (r : RM N hB h i x l p m xe xd a bad) (hl : l.length ≤ 1024) (hm : m.es.length ≤ 900) : ∃ (h' : Heap) (ws : List (En × SV)) (xe' : SV) (v : Nat), call 118 [[.sc (.ptr i 0 3)], [.sc (.ptr p 0 15)]] h = some ([.sc (.int .i64 v)], h') ∧
    RM N hB h' i x l p (m.wes (m.es ++ ws)) xe' xd (rFld l 9 ⟨m.plain, a, bad, 0⟩).a (rFld l 9 ⟨m.plain, a, bad, 0⟩).bad ∧ (m.wes (m.es ++ ws)).plain = (rFld l 9 ⟨m.plain, a, bad, 0⟩).m ∧ RMS h h' m (m.wes (m.es ++ ws)) xe xd xe' xd ∧ Vok v (rFld l 9 ⟨m.plain, a, bad, 0⟩).err (rFld l 9 ⟨m.plain, a, bad, 0⟩).bad := by
  have q1 := spec75 r.rd (most := 4) (by omega)
  have s1 := rNum_go r.rd 4
  have hmost := rNum_most l a bad 4
  have hpos := @rNum_pos l a bad 4
  show ∃ (h' : Heap) (ws : List (En × SV)) (xe' : SV) (v : Nat), _ ∧ RM N hB h' i x l p (m.wes (m.es ++ ws)) xe' xd (rEnts l (rNum l a bad 4).1 (rNum l a bad 4).2.1 (rNum l a bad 4).2.2).2.1 (rEnts l (rNum l a bad 4).1 (rNum l a bad 4).2.1 (rNum l a bad 4).2.2).2.2.1 ∧ (m.wes (m.es ++ ws)).plain = m.plain.wes (m.plain.es ++ pl (rEnts l (rNum l a bad 4).1 (rNum l a bad 4).2.1 (rNum l a bad 4).2.2).1) ∧ _ ∧ Vok v (rEnts l (rNum l a bad 4).1 (rNum l a bad 4).2.1 (rNum l a bad 4).2.2).2.2.2 (rEnts l (rNum l a bad 4).1 (rNum l a bad 4).2.1 (rNum l a bad 4).2.2).2.2.1
  generalize rNum l a bad 4 = D at *
  obtain ⟨n, a1, b1⟩ := D
  simp only at q1 s1 hmost hpos ⊢
  have z1 : ((4 : Nat) : Int) = 4 := rfl
  rw [z1] at q1
  obtain ⟨r1, t1⟩ := r.go s1.mod s1.rd
  generalize setR h i x a1 b1 = h1 at *
  obtain ⟨H', ws, xe', rr, lo, rf, hw, sf, out⟩ := rents_loop hl n h1 m xe a1 b1 [(0, [.sc (.ptr i 0 3)]), (1, [.sc (.ptr p 0 15)]), (5, [.sc (.int .u64 n)])] r1 hpos (by omega) rfl rfl rfl
  have lo := loop_run lo
  rcases out with ⟨e', rfl, h0⟩ | ⟨v, rfl, hv⟩
  · obtain ⟨r2, t2⟩ := r.trim rf (t1.trans sf) [.sc (.int .i64 ((0 : Nat) : Int))]
    refine ⟨_, ws, xe', 0, callX (hh := Go.Abs.trim h H' [.sc (.int .i64 ((0 : Nat) : Int))]) rfl (by rfl : F 118 = some M.a118) (fun R RO RD RT E => ?_), r2, plain_app hw, t2, fun h => absurd h0 h, fun _ => .inl rfl⟩
    have lo := E.run lo
    clear r2 t2 rf sf r1 t1 s1
    simp [M.a118, E.eqs, q1, lo]
  · obtain ⟨r2, t2⟩ := r.trim rf (t1.trans sf) [.sc (.int .i64 (v : Int))]
    refine ⟨_, ws, xe', v, callX (hh := Go.Abs.trim h H' [.sc (.int .i64 (v : Int))]) rfl (by rfl : F 118 = some M.a118) (fun R RO RD RT E => ?_), r2, plain_app hw, t2, hv⟩
    have lo := E.run lo
    clear r2 t2 rf sf r1 t1 s1
    simp [M.a118, E.eqs, q1, lo]
end
end Go.Proofs.Ytoghoddofokekaa
end

section
set_option linter.unusedVariables false
set_option linter.unusedSimpArgs false
set_option maxRecDepth 100000
namespace Go.Proofs.Ytoghoddofokekaa
open Go.Abs

section
variable {g : Heap} {p k : Nat} {cs : List SV}
theorem put_cell (hg : g[p]? = some ⟨.var, cs⟩) (hl : cs.length = 15) (hk : k < 15) (v : SV) : storeA g 1 [.sc (.ptr p k 15)] [.sc v] = some ([], g.set p ⟨.var, cs.set k v⟩) := by
  simp [storeA, hg, hl, setCells]
  omega
theorem nil_cell (hg : g[p]? = some ⟨.var, cs⟩) (hl : cs.length = 15) : nilckA g [.sc (.ptr p 0 15)] = some ([.sc (.ptr p 0 15)], g) := by simp [nilckA, freshB, hg, hl]
theorem fld_cell (hg : g[p]? = some ⟨.var, cs⟩) (hl : cs.length = 15) (o k : Nat) : fldA g k [.sc (.ptr p o 15)] = some ([.sc (.ptr p (o + k) 15)], g) := by simp [fldA, freshB, hg, hl]
theorem load_cell (hg : g[p]? = some ⟨.var, cs⟩) (hl : cs.length = 15) {v : SV} (hk : cs[k]? = some v) : loadA g false 1 [.sc (.ptr p k 15)] = some ([.sc v], g) := by
  have : k < cs.length := (List.getElem?_eq_some_iff.1 hk).1
  simp [loadA, hg, hl, hk, show k + 1 ≤ 15 by omega]
end

section
variable {N : Nat} {hB h : Heap} {i : Nat} {x : SV} {l : List UInt8} {p : Nat} {m : Ms} {xe xd : SV} {a bad a' bad' : Nat}

/-- what a field's reading leaves -/
def FldOk (N : Nat) (hB h : Heap) (i : Nat) (x : SV) (l : List UInt8) (p : Nat) (m : Ms) (xe xd : SV) (j f : Nat) (a bad : Nat) : Prop :=
  ∃ (h' : Heap) (m' : Ms) (xe' xd' : SV) (v : Nat), call f [[.sc (.ptr i 0 3)], [.sc (.ptr p 0 15)], [.sc (.int .i64 (pwM j))]] h = some ([.sc (.int .i64 v)], h') ∧ RM N hB h' i x l p m' xe' xd' (rFld l j ⟨m.plain, a, bad, 0⟩).a (rFld l j ⟨m.plain, a, bad, 0⟩).bad ∧
    m'.plain = (rFld l j ⟨m.plain, a, bad, 0⟩).m ∧ RMS h h' m m' xe xd xe' xd' ∧ Vok v (rFld l j ⟨m.plain, a, bad, 0⟩).err (rFld l j ⟨m.plain, a, bad, 0⟩).bad ∧ (j < 9 → v = 0 ∧ m'.es = m.es)

theorem read0 (r : RM N hB h i x l p m xe xd a bad) : FldOk N hB h i x l p m xe xd 0 98 a bad := by
  have q := spec75 r.rd (most := 72057594037927935) (by omega)
  have s := rNum_go r.rd 72057594037927935
  obtain ⟨r1, t1⟩ := r.numU (m' := { m with term := (rNum l a bad 72057594037927935).1 }) s rfl rfl ⟨(rNum_lt l a bad 72057594037927935).1, r.num.index, r.num.lt, r.num.cm, r.num.bi, r.num.bt, r.num.off⟩
  obtain ⟨r2, t2⟩ := r.trim r1 t1 [.sc (.int .i64 0)]
  refine ⟨_, _, xe, xd, 0, callX (hh := _) rfl (by rfl : F 98 = some M.a98) (fun R RO RD RT E => ?_), r2, rfl, t2, ⟨fun h => absurd rfl h, fun _ => .inl rfl⟩, fun _ => ⟨rfl, rfl⟩⟩
  have c1 := r.cell s.mod
  have cl : (m.cells xe xd).length = 15 := rfl
  have nk := nil_cell c1 cl
  have fl := fld_cell c1 cl 0 3
  have z1 : ((72057594037927935 : Nat) : Int) = 72057594037927935 := rfl
  rw [z1] at q
  skip
  generalize rNum l a bad 72057594037927935 = D at *
  obtain ⟨n, a1, b1⟩ := D
  have st := put_cell c1 cl (k := 3) (by omega) (.int .u64 n)
  have e1 : (m.cells xe xd).set 3 (.int .u64 n) = ({ m with term := n } : Ms).cells xe xd := rfl
  rw [e1] at st
  skip
  clear r1 t1 r2 t2 s
  simp only at q nk fl st ⊢
  generalize setR h i x a1 b1 = g at *
  generalize ({ m with term := n } : Ms).cells xe xd = C2 at *
  simp [M.a98, E.eqs, pwM, q, nk, fl, st]

theorem read1 (r : RM N hB h i x l p m xe xd a bad) : FldOk N hB h i x l p m xe xd 1 98 a bad := by
  have q := spec75 r.rd (most := 72057594037927935) (by omega)
  have s := rNum_go r.rd 72057594037927935
  obtain ⟨r1, t1⟩ := r.numU (m' := { m with index := (rNum l a bad 72057594037927935).1 }) s rfl rfl ⟨r.num.term, (rNum_lt l a bad 72057594037927935).1, r.num.lt, r.num.cm, r.num.bi, r.num.bt, r.num.off⟩
  obtain ⟨r2, t2⟩ := r.trim r1 t1 [.sc (.int .i64 0)]
  refine ⟨_, _, xe, xd, 0, callX (hh := _) rfl (by rfl : F 98 = some M.a98) (fun R RO RD RT E => ?_), r2, rfl, t2, ⟨fun h => absurd rfl h, fun _ => .inl rfl⟩, fun _ => ⟨rfl, rfl⟩⟩
  have c1 := r.cell s.mod
  have cl : (m.cells xe xd).length = 15 := rfl
  have nk := nil_cell c1 cl
  have fl := fld_cell c1 cl 0 4
  have z1 : ((72057594037927935 : Nat) : Int) = 72057594037927935 := rfl
  rw [z1] at q
  skip
  generalize rNum l a bad 72057594037927935 = D at *
  obtain ⟨n, a1, b1⟩ := D
  have st := put_cell c1 cl (k := 4) (by omega) (.int .u64 n)
  have e1 : (m.cells xe xd).set 4 (.int .u64 n) = ({ m with index := n } : Ms).cells xe xd := rfl
  rw [e1] at st
  skip
  clear r1 t1 r2 t2 s
  simp only at q nk fl st ⊢
  generalize setR h i x a1 b1 = g at *
  generalize ({ m with index := n } : Ms).cells xe xd = C2 at *
  simp [M.a98, E.eqs, pwM, q, nk, fl, st]

theorem read2 (r : RM N hB h i x l p m xe xd a bad) : FldOk N hB h i x l p m xe xd 2 98 a bad := by
  have q := spec75 r.rd (most := 72057594037927935) (by omega)
  have s := rNum_go r.rd 72057594037927935
  obtain ⟨r1, t1⟩ := r.numU (m' := { m with lt := (rNum l a bad 72057594037927935).1 }) s rfl rfl ⟨r.num.term, r.num.index, (rNum_lt l a bad 72057594037927935).1, r.num.cm, r.num.bi, r.num.bt, r.num.off⟩
  obtain ⟨r2, t2⟩ := r.trim r1 t1 [.sc (.int .i64 0)]
  refine ⟨_, _, xe, xd, 0, callX (hh := _) rfl (by rfl : F 98 = some M.a98) (fun R RO RD RT E => ?_), r2, rfl, t2, ⟨fun h => absurd rfl h, fun _ => .inl rfl⟩, fun _ => ⟨rfl, rfl⟩⟩
  have c1 := r.cell s.mod
  have cl : (m.cells xe xd).length = 15 := rfl
  have nk := nil_cell c1 cl
  have fl := fld_cell c1 cl 0 5
  have z1 : ((72057594037927935 : Nat) : Int) = 72057594037927935 := rfl
  rw [z1] at q
  skip
  generalize rNum l a bad 72057594037927935 = D at *
  obtain ⟨n, a1, b1⟩ := D
  have st := put_cell c1 cl (k := 5) (by omega) (.int .u64 n)
  have e1 : (m.cells xe xd).set 5 (.int .u64 n) = ({ m with lt := n } : Ms).cells xe xd := rfl
  rw [e1] at st
  skip
  clear r1 t1 r2 t2 s
  simp only at q nk fl st ⊢
  generalize setR h i x a1 b1 = g at *
  generalize ({ m with lt := n } : Ms).cells xe xd = C2 at *
  simp [M.a98, E.eqs, pwM, q, nk, fl, st]

theorem read3 (r : RM N hB h i x l p m xe xd a bad) : FldOk N hB h i x l p m xe xd 3 98 a bad := by
  have q := spec75 r.rd (most := 72057594037927935) (by omega)
  have s := rNum_go r.rd 72057594037927935
  obtain ⟨r1, t1⟩ := r.numU (m' := { m with cm := (rNum l a bad 72057594037927935).1 }) s rfl rfl ⟨r.num.term, r.num.index, r.num.lt, (rNum_lt l a bad 72057594037927935).1, r.num.bi, r.num.bt, r.num.off⟩
  obtain ⟨r2, t2⟩ := r.trim r1 t1 [.sc (.int .i64 0)]
  refine ⟨_, _, xe, xd, 0, callX (hh := _) rfl (by rfl : F 98 = some M.a98) (fun R RO RD RT E => ?_), r2, rfl, t2, ⟨fun h => absurd rfl h, fun _ => .inl rfl⟩, fun _ => ⟨rfl, rfl⟩⟩
  have c1 := r.cell s.mod
  have cl : (m.cells xe xd).length = 15 := rfl
  have nk := nil_cell c1 cl
  have fl := fld_cell c1 cl 0 7
  have z1 : ((72057594037927935 : Nat) : Int) = 72057594037927935 := rfl
  rw [z1] at q
  skip
  generalize rNum l a bad 72057594037927935 = D at *
  obtain ⟨n, a1, b1⟩ := D
  have st := put_cell c1 cl (k := 7) (by omega) (.int .u64 n)
  have e1 : (m.cells xe xd).set 7 (.int .u64 n) = ({ m with cm := n } : Ms).cells xe xd := rfl
  rw [e1] at st
  skip
  clear r1 t1 r2 t2 s
  simp only at q nk fl st ⊢
  generalize setR h i x a1 b1 = g at *
  generalize ({ m with cm := n } : Ms).cells xe xd = C2 at *
  simp [M.a98, E.eqs, pwM, q, nk, fl, st]

theorem read6 (r : RM N hB h i x l p m xe xd a bad) : FldOk N hB h i x l p m xe xd 6 98 a bad := by
  have q := spec75 r.rd (most := 32768) (by omega)
  have s := rNum_go r.rd 32768
  obtain ⟨r1, t1⟩ := r.numU (m' := { m with off := ((rNum l a bad 32768).1 : Int) }) s rfl rfl ⟨r.num.term, r.num.index, r.num.lt, r.num.cm, r.num.bi, r.num.bt, by have := rNum_most l a bad 32768; simp only; omega⟩
  obtain ⟨r2, t2⟩ := r.trim r1 t1 [.sc (.int .i64 0)]
  refine ⟨_, _, xe, xd, 0, callX (hh := _) rfl (by rfl : F 98 = some M.a98) (fun R RO RD RT E => ?_), r2, rfl, t2, ⟨fun h => absurd rfl h, fun _ => .inl rfl⟩, fun _ => ⟨rfl, rfl⟩⟩
  have c1 := r.cell s.mod
  have cl : (m.cells xe xd).length = 15 := rfl
  have nk := nil_cell c1 cl
  have fl := fld_cell c1 cl 0 12
  have z1 : ((32768 : Nat) : Int) = 32768 := rfl
  rw [z1] at q
  have hmo := rNum_most l a bad 32768
  generalize rNum l a bad 32768 = D at *
  obtain ⟨n, a1, b1⟩ := D
  have st := put_cell c1 cl (k := 12) (by omega) (.int .i64 (n : Int))
  have e1 : (m.cells xe xd).set 12 (.int .i64 (n : Int)) = ({ m with off := (n : Int) } : Ms).cells xe xd := rfl
  rw [e1] at st
  have wr : IntKind.i64.wrap (n : Int) = n := by simp only at hmo; exact wi64 (by omega) (by omega)
  clear r1 t1 r2 t2 s
  simp only at q nk fl st ⊢
  generalize setR h i x a1 b1 = g at *
  generalize ({ m with off := (n : Int) } : Ms).cells xe xd = C2 at *
  simp [M.a98, E.eqs, pwM, q, nk, fl, st, wr]

theorem read4 (r : RM N hB h i x l p m xe xd a bad) : FldOk N hB h i x l p m xe xd 4 98 a bad := by
  have q := spec74 r.rd (most := 1) (by omega)
  have s := rByte_go r.rd 1
  obtain ⟨r1, t1⟩ := r.numU (m' := { m with rf := decide ((rByte l a bad 1).1 = 1) }) s rfl rfl ⟨r.num.term, r.num.index, r.num.lt, r.num.cm, r.num.bi, r.num.bt, r.num.off⟩
  obtain ⟨r2, t2⟩ := r.trim r1 t1 [.sc (.int .i64 0)]
  refine ⟨_, _, xe, xd, 0, callX (hh := _) rfl (by rfl : F 98 = some M.a98) (fun R RO RD RT E => ?_), r2, rfl, t2, ⟨fun h => absurd rfl h, fun _ => .inl rfl⟩, fun _ => ⟨rfl, rfl⟩⟩
  have c1 := r.cell s.mod
  have cl : (m.cells xe xd).length = 15 := rfl
  have nk := nil_cell c1 cl
  have fl := fld_cell c1 cl 0 8
  have z1 : ((1 : Nat) : Int) = 1 := rfl
  rw [z1] at q
  generalize rByte l a bad 1 = D at *
  obtain ⟨n, a1, b1⟩ := D
  have st := put_cell c1 cl (k := 8) (by omega) (.bool (decide (n = 1)))
  have e1 : (m.cells xe xd).set 8 (.bool (decide (n = 1))) = ({ m with rf := decide (n = 1) } : Ms).cells xe xd := rfl
  rw [e1] at st
  have ec : decide ((n : Int) = 1) = decide (n = 1) := by by_cases hn : n = 1 <;> simp [hn]; omega
  clear r1 t1 r2 t2 s
  simp only at q nk fl st ⊢
  generalize setR h i x a1 b1 = g at *
  generalize ({ m with rf := decide (n = 1) } : Ms).cells xe xd = C2 at *
  generalize decide (n = 1) = dn at *
  simp [M.a98, E.eqs, pwM, q, nk, fl, ec, st]

theorem read7 (r : RM N hB h i x l p m xe xd a bad) : FldOk N hB h i x l p m xe xd 7 98 a bad := by
  have q := spec74 r.rd (most := 1) (by omega)
  have s := rByte_go r.rd 1
  obtain ⟨r1, t1⟩ := r.numU (m' := { m with la := decide ((rByte l a bad 1).1 = 1) }) s rfl rfl ⟨r.num.term, r.num.index, r.num.lt, r.num.cm, r.num.bi, r.num.bt, r.num.off⟩
  obtain ⟨r2, t2⟩ := r.trim r1 t1 [.sc (.int .i64 0)]
  refine ⟨_, _, xe, xd, 0, callX (hh := _) rfl (by rfl : F 98 = some M.a98) (fun R RO RD RT E => ?_), r2, rfl, t2, ⟨fun h => absurd rfl h, fun _ => .inl rfl⟩, fun _ => ⟨rfl, rfl⟩⟩
  have c1 := r.cell s.mod
  have cl : (m.cells xe xd).length = 15 := rfl
  have nk := nil_cell c1 cl
  have fl := fld_cell c1 cl 0 14
  have z1 : ((1 : Nat) : Int) = 1 := rfl
  rw [z1] at q
  generalize rByte l a bad 1 = D at *
  obtain ⟨n, a1, b1⟩ := D
  have st := put_cell c1 cl (k := 14) (by omega) (.bool (decide (n = 1)))
  have e1 : (m.cells xe xd).set 14 (.bool (decide (n = 1))) = ({ m with la := decide (n = 1) } : Ms).cells xe xd := rfl
  rw [e1] at st
  have ec : decide ((n : Int) = 1) = decide (n = 1) := by by_cases hn : n = 1 <;> simp [hn]; omega
  clear r1 t1 r2 t2 s
  simp only at q nk fl st ⊢
  generalize setR h i x a1 b1 = g at *
  generalize ({ m with la := decide (n = 1) } : Ms).cells xe xd = C2 at *
  generalize decide (n = 1) = dn at *
  simp [M.a98, E.eqs, pwM, q, nk, fl, ec, st]

theorem read5 (r : RM N hB h i x l p m xe xd a bad) : FldOk N hB h i x l p m xe xd 5 98 a bad := by
  have z1 : ((72057594037927935 : Nat) : Int) = 72057594037927935 := rfl
  have z2 : ((254 : Nat) : Int) = 254 := rfl
  have q1 := spec75 r.rd (most := 72057594037927935) (by omega)
  have s1 := rNum_go r.rd 72057594037927935
  have lt1 := (rNum_lt l a bad 72057594037927935).1
  rw [z1] at q1
  unfold FldOk
  simp only [rFld]
  generalize rNum l a bad 72057594037927935 = D1 at *
  obtain ⟨n1, a1, b1⟩ := D1
  simp only at q1 s1 lt1 ⊢
  have c1 := r.cell s1.mod
  have cl : ∀ (m' : Ms) (u v : SV), (m'.cells u v).length = 15 := fun _ _ _ => rfl
  obtain ⟨r1, t1⟩ := r.numU (m' := { m with bi := n1 }) s1 rfl rfl ⟨r.num.term, r.num.index, r.num.lt, r.num.cm, lt1, r.num.bt, r.num.off⟩
  have nk1 := nil_cell c1 (cl _ _ _)
  have fa1 := fld_cell c1 (cl _ _ _) 0 9
  have fb1 := fld_cell c1 (cl _ _ _) 9 0
  have st1 := put_cell c1 (cl _ _ _) (k := 9) (by omega) (.int .u64 n1)
  have e1 : (m.cells xe xd).set 9 (.int .u64 n1) = ({ m with bi := n1 } : Ms).cells xe xd := rfl
  rw [e1] at st1
  generalize setR h i x a1 b1 = g1 at *
  obtain ⟨g2, hg2⟩ : ∃ g2 : Heap, g2 = g1.set p ⟨.var, ({ m with bi := n1 } : Ms).cells xe xd⟩ := ⟨_, rfl⟩
  rw [← hg2] at r1 t1 st1
  have q2 := spec75 r1.rd (most := 72057594037927935) (by omega)
  have s2 := rNum_go r1.rd 72057594037927935
  have lt2 := (rNum_lt l a1 b1 72057594037927935).1
  rw [z1] at q2
  generalize rNum l a1 b1 72057594037927935 = D2 at *
  obtain ⟨n2, a2, b2⟩ := D2
  simp only at q2 s2 lt2 ⊢
  have c2 := r1.cell s2.mod
  obtain ⟨r2, t2⟩ := r1.numU (m' := { m with bi := n1, bt := n2 }) s2 rfl rfl ⟨r.num.term, r.num.index, r.num.lt, r.num.cm, lt1, lt2, r.num.off⟩
  have nk2 := nil_cell c2 (cl _ _ _)
  have fa2 := fld_cell c2 (cl _ _ _) 0 9
  have fb2 := fld_cell c2 (cl _ _ _) 9 1
  have st2 := put_cell c2 (cl _ _ _) (k := 10) (by omega) (.int .u64 n2)
  have e2 : (({ m with bi := n1 } : Ms).cells xe xd).set 10 (.int .u64 n2) = ({ m with bi := n1, bt := n2 } : Ms).cells xe xd := rfl
  rw [e2] at st2
  generalize setR g2 i x a2 b2 = g3 at *
  obtain ⟨g4, hg4⟩ : ∃ g4 : Heap, g4 = g3.set p ⟨.var, ({ m with bi := n1, bt := n2 } : Ms).cells xe xd⟩ := ⟨_, rfl⟩
  rw [← hg4] at r2 t2 st2
  have q3 := spec74 r2.rd (most := 254) (by omega)
  have s3 := rByte_go r2.rd 254
  have lt3 := (rByte_lt l a2 b2 254).2.2
  rw [z2] at q3
  generalize rByte l a2 b2 254 = D3 at *
  obtain ⟨n3, a3, b3⟩ := D3
  simp only at q3 s3 lt3 ⊢
  have c3 := r2.cell s3.mod
  obtain ⟨r3, t3⟩ := r2.numU (m' := { m with bi := n1, bt := n2, bc := (n3 : Int) }) s3 rfl rfl ⟨r.num.term, r.num.index, r.num.lt, r.num.cm, lt1, lt2, r.num.off⟩
  have nk3 := nil_cell c3 (cl _ _ _)
  have fa3 := fld_cell c3 (cl _ _ _) 0 9
  have fb3 := fld_cell c3 (cl _ _ _) 9 2
  have st3 := put_cell c3 (cl _ _ _) (k := 11) (by omega) (.int .i64 n3)
  have e3 : (({ m with bi := n1, bt := n2 } : Ms).cells xe xd).set 11 (.int .i64 n3) = ({ m with bi := n1, bt := n2, bc := (n3 : Int) } : Ms).cells xe xd := rfl
  rw [e3] at st3
  generalize setR g4 i x a3 b3 = g5 at *
  obtain ⟨g6, hg6⟩ : ∃ g6 : Heap, g6 = g5.set p ⟨.var, ({ m with bi := n1, bt := n2, bc := (n3 : Int) } : Ms).cells xe xd⟩ := ⟨_, rfl⟩
  rw [← hg6] at r3 t3 st3
  have wr := wi64n lt3
  obtain ⟨r4, t4⟩ := r.trim r3 ((t1.trans t2).trans t3) [.sc (.int .i64 0)]
  refine ⟨_, _, xe, xd, 0, callX (hh := Go.Abs.trim h g6 [.sc (.int .i64 0)]) rfl (by rfl : F 98 = some M.a98) (fun R RO RD RT E => ?_), r4, rfl, t4, ⟨fun h => absurd rfl h, fun _ => .inl rfl⟩, fun _ => ⟨rfl, rfl⟩⟩
  clear r1 r2 r3 r4 t1 t2 t3 t4 s1 s2 s3 hg2 hg4 hg6
  simp [M.a98, E.eqs, pwM, q1, q2, q3, nk1, nk2, nk3, fa1, fa2, fa3, fb1, fb2, fb3, st1, st2, st3, wr]

theorem read8 (r : RM N hB h i x l p m xe xd a bad) : FldOk N hB h i x l p m xe xd 8 98 a bad := by
  obtain ⟨g, y, q, t⟩ := spec95 r.rd (most := 256) (by omega) (by omega)
  have hmo := rText_most l a bad 256
  have z1 : ((256 : Nat) : Int) = 256 := rfl
  rw [z1] at hmo
  unfold FldOk
  simp only [rFld]
  generalize rText l a bad 256 = D at *
  obtain ⟨T, a1, b1⟩ := D
  simp only at t hmo ⊢
  have c1 := r.cell t.mod
  have cl : (m.cells xe xd).length = 15 := rfl
  obtain ⟨r1, t1⟩ := r.upd (m' := { m with D := T }) t.mod t.rd rfl t.own (.inr t.new) ⟨r.num.term, r.num.index, r.num.lt, r.num.cm, r.num.bi, r.num.bt, r.num.off⟩ (by simp only; omega)
  have nk := nil_cell c1 cl
  have fl := fld_cell c1 cl 0 13
  have st := put_cell c1 cl (k := 13) (by omega) y
  have e1 : (m.cells xe xd).set 13 y = ({ m with D := T } : Ms).cells xe y := rfl
  rw [e1] at st
  obtain ⟨g2, hg2⟩ : ∃ g2 : Heap, g2 = g.set p ⟨.var, ({ m with D := T } : Ms).cells xe y⟩ := ⟨_, rfl⟩
  rw [← hg2] at r1 t1 st
  obtain ⟨r2, t2⟩ := r.trim r1 t1 [.sc (.int .i64 0)]
  refine ⟨_, _, xe, y, 0, callX (hh := Go.Abs.trim h g2 [.sc (.int .i64 0)]) rfl (by rfl : F 98 = some M.a98) (fun R RO RD RT E => ?_), r2, rfl, t2, ⟨fun h => absurd rfl h, fun _ => .inl rfl⟩, fun _ => ⟨rfl, rfl⟩⟩
  clear r1 t1 r2 t2 t hg2
  simp [M.a98, E.eqs, pwM, q, nk, fl, st]

theorem read9 (r : RM N hB h i x l p m xe xd a bad) (hl : l.length ≤ 1024) (hm : m.es.length ≤ 900) : FldOk N hB h i x l p m xe xd 9 98 a bad := by
  obtain ⟨h1, ws, xe1, v, q, r1, e1, t1, hv⟩ := spec118 r hl hm
  obtain ⟨r2, t2⟩ := r.trim r1 t1 [.sc (.int .i64 (v : Int))]
  refine ⟨_, _, xe1, xd, v, callX (hh := Go.Abs.trim h h1 [.sc (.int .i64 (v : Int))]) rfl (by rfl : F 98 = some M.a98) (fun R RO RD RT E => ?_), r2, e1, t2, hv, fun h => absurd h (by omega)⟩
  clear r1 t1 r2 t2
  simp [M.a98, E.eqs, pwM, q]

theorem spec98 (r : RM N hB h i x l p m xe xd a bad) (hl : l.length ≤ 1024) (hm : m.es.length ≤ 900) {j : Nat} (hj : j < 10) : FldOk N hB h i x l p m xe xd j 98 a bad := by
  rcases j10 hj with rfl | rfl | rfl | rfl | rfl | rfl | rfl | rfl | rfl | rfl
  · exact read0 r
  · exact read1 r
  · exact read2 r
  · exact read3 r
  · exact read4 r
  · exact read5 r
  · exact read6 r
  · exact read7 r
  · exact read8 r
  · exact read9 r hl hm
end
end Go.Proofs.Ytoghoddofokekaa
end

section
set_option linter.unusedVariables false
set_option linter.unusedSimpArgs false
set_option maxRecDepth 100000
namespace Go.Proofs.Ytoghoddofokekaa
open Go.Abs

/-- a message in new memory -/
structure FM (h h' : Heap) (m : Ms) (xe xd : SV) : Prop where
  mod : Mod (fun _ => False) h h'
  ent : Own h' xe 57 5 m.es.length (entC m.es)
  eN : ∀ j, blk xe j → h.length ≤ j
  dat : ∀ z ∈ m.es, Own h' z.2 5 1 z.1.T.length (Go.Abs.bytes z.1.T) ∧ ∀ j, blk z.2 j → h.length ≤ j ∧ ¬ blk xe j
  d : Own h' xd 5 1 m.D.length (Go.Abs.bytes m.D)
  dN : ∀ j, blk xd j → h.length ≤ j ∧ ¬ blk xe j
  trm : ∀ z ∈ m.es, z.1.term < 18446744073709551616 ∧ z.1.index < 18446744073709551616
  num : MsN m
  few : m.es.length ≤ 2513169434844
  dl : m.D.length ≤ 140737488351232
theorem FM.at' {h h' : Heap} {m : Ms} {xe xd : SV} (f : FM h h' m xe xd) : MsAt h' m xe xd :=
  ⟨⟨f.ent.row, fun z hz => (f.dat z hz).1.row, f.trm⟩, f.d.row, f.num.index, f.few, f.dl⟩
theorem zero_num : MsN Ms.zero := ⟨by simp [Ms.zero], by simp [Ms.zero], by simp [Ms.zero], by simp [Ms.zero], by simp [Ms.zero], by simp [Ms.zero], by simp [Ms.zero]⟩
theorem FM.zero {h h' : Heap} (m : Mod (fun _ => False) h h') : FM h h' Ms.zero .nils .nils :=
  ⟨m, .inl ⟨rfl, rfl, rfl⟩, fun _ h => h.elim, fun z hz => by simp [Ms.zero] at hz, .inl ⟨rfl, rfl, rfl⟩, fun _ h => h.elim, fun z hz => by simp [Ms.zero] at hz, zero_num, by simp [Ms.zero], by simp [Ms.zero]⟩
theorem FM.pass {h h1 h2 : Heap} {m : Ms} {xe xd : SV} (f : FM h h1 m xe xd) (md : Mod (fun _ => False) h1 h2) : FM h h2 m xe xd :=
  ⟨f.mod.trans md fun _ _ h => h, f.ent.mod md fun _ _ h => h, f.eN, fun z hz => ⟨(f.dat z hz).1.mod md fun _ _ h => h, (f.dat z hz).2⟩, f.d.mod md fun _ _ h => h, f.dN, f.trm, f.num, f.few, f.dl⟩
theorem FM.trim {h h' : Heap} {m : Ms} {xe xd : SV} (f : FM h h' m xe xd) (v : SV) : FM h (Go.Abs.trim h h' [.agg (m.cells xe xd), .sc v]) m xe xd := by
  have m1 := trim_mod' (r := [.agg (m.cells xe xd), .sc v]) f.mod
  unfold Go.Abs.trim at m1 ⊢
  split
  case isFalse => exact f
  case isTrue hc =>
    rw [if_pos hc] at m1
    simp only [Bool.and_eq_true] at hc
    obtain ⟨hp, _⟩ := hc
    have he : xe = .nils := by
      rcases f.ent with ⟨h1, _⟩ | ⟨b, rfl, _⟩
      · exact h1
      · simp [pureT, pureV, pureS, Ms.cells] at hp
    have hd : xd = .nils := by
      rcases f.d with ⟨h1, _⟩ | ⟨b, rfl, _⟩
      · exact h1
      · simp [pureT, pureV, pureS, Ms.cells] at hp
    subst he hd
    have hes : m.es = [] := by
      rcases f.ent with ⟨_, h1, _⟩ | ⟨b, h1, _⟩
      · exact List.eq_nil_of_length_eq_zero h1
      · simp at h1
    exact ⟨m1, own_take f.ent fun _ h => h.elim, f.eN, fun z hz => by rw [hes] at hz; simp at hz, own_take f.d fun _ h => h.elim, f.dN, f.trm, f.num, f.few, f.dl⟩

theorem rFromM_k (l : List UInt8) (k : Int) : ∀ (n j : Nat) (s : Sm), (rFromM l k n j s).m.k = s.m.k
  | 0, j, s => rfl
  | n + 1, j, s => by
    unfold rFromM
    rw [rFromM_k l k n (j + 1)]
    unfold optR
    split
    · unfold rFld
      split <;> rfl
    · rfl
theorem rHead_plain (l : List UInt8) : (rHead l).m.plain = (rHead l).m ∧ (rHead l).err = 0 ∧ (rHead l).m.es = [] := by
  unfold rHead
  simp only
  split
  · exact ⟨rfl, rfl, rfl⟩
  · exact ⟨rfl, rfl, rfl⟩

section
variable {N : Nat} {hB : Heap} {i : Nat} {x : SV} {l : List UInt8} {p : Nat} {k : Int}

theorem rFld_err (l : List UInt8) {j : Nat} (hj : j < 9) (s : Sm) : (rFld l j s).err = 0 := by
  rcases j10 (by omega : j < 10) with rfl | rfl | rfl | rfl | rfl | rfl | rfl | rfl | rfl | rfl
  all_goals first | rfl | omega

theorem decM_loop {v2 : TV} (hl : l.length ≤ 1024) : ∀ (n j : Nat) (H : Heap) (m : Ms) (xe xd : SV) (s : Sm) (v : Nat) (e : Env), j + n = 10 → RM N hB H i x l p m xe xd s.a s.bad → m.plain = s.m → Vok v s.err s.bad → (0 < n → s.err = 0 ∧ v = 0 ∧ m.es = []) →
    e.get 2 = v2 → e.get 5 = [.sc (.int .i64 v)] → e.get 6 = [.sc (.ptr i 0 3)] → e.get 7 = [.sc (.ptr p 0 15)] → e.get 8 = [.sc (.int .i64 (maskM k))] → e.get 9 = [.sc (.int .i64 (pwM j))] →
    ∃ (H' : Heap) (m' : Ms) (xe' xd' : SV) (v' : Nat) (e' : Env), loopE F O (.loop [2, 5, 6, 7, 8, 9] M.b47_0) e H = some (.exit 0, e', H') ∧ RM N hB H' i x l p m' xe' xd' (rFromM l k n j s).a (rFromM l k n j s).bad ∧ m'.plain = (rFromM l k n j s).m ∧ Vok v' (rFromM l k n j s).err (rFromM l k n j s).bad ∧
      e'.get 2 = v2 ∧ e'.get 5 = [.sc (.int .i64 v')] ∧ e'.get 6 = [.sc (.ptr i 0 3)] ∧ e'.get 7 = [.sc (.ptr p 0 15)]
  | 0, j, H, m, xe, xd, s, v, e, hj, r, hm, hv, h0, e2, e5, e6, e7, e8, e9 => by
    have : j = 10 := by omega
    subst this
    have p7 : pwM 10 = 1024 := rfl
    rw [p7] at e9
    refine ⟨H, m, xe, xd, v, [(2, v2), (5, [.sc (.int .i64 v)]), (6, [.sc (.ptr i 0 3)]), (7, [.sc (.ptr p 0 15)]), (8, [.sc (.int .i64 (maskM k))]), (9, [.sc (.int .i64 1024)]), (47, [.sc (.bool false)])], exitM fun R RO RD RT E => ?_, r, hm, hv, rfl, rfl, rfl, rfl⟩
    simp [M.b47_0, E.eqs, e2, e5, e6, e7, e8, e9]
  | n + 1, j, H, m, xe, xd, s, v, e, hj, r, hm, hv, h0, e2, e5, e6, e7, e8, e9 => by
    have hlt : j < 10 := by omega
    obtain ⟨h01, h02, h03⟩ := h0 (by omega)
    subst h02
    have mb := maskM_bit k j hlt
    have p1 := pwM_ne hlt
    have p2 := pwM_lt hlt
    have p3 := pwM_shl hlt
    have e5 : e.get 5 = [.sc (.int .i64 0)] := e5
    unfold rFromM optR
    cases hf : flM k j
    · rw [hf] at mb
      simp only [Bool.false_eq_true, if_false] at mb ⊢
      obtain ⟨H', m', xe', xd', v', e', lo, rest⟩ := decM_loop hl n (j + 1) H m xe xd s 0 [(2, v2), (5, [.sc (.int .i64 0)]), (6, [.sc (.ptr i 0 3)]), (7, [.sc (.ptr p 0 15)]), (8, [.sc (.int .i64 (maskM k))]), (9, [.sc (.int .i64 (pwM (j + 1)))])] (by omega) r hm hv (fun _ => ⟨h01, rfl, h03⟩) rfl rfl rfl rfl rfl rfl
      refine ⟨H', m', xe', xd', v', e', stepM (fun R RO RD RT E => ?_) lo, rest⟩
      clear lo rest r
      generalize pwM (j + 1) = pn at *
      generalize pwM j = pj at *
      simp [M.b47_0, E.eqs, e2, e5, e6, e7, e8, e9, p1, p2, p3, mb]
    · rw [hf] at mb
      simp only [if_true] at mb ⊢
      obtain ⟨H1, m1, xe1, xd1, v1, q, r1, hm1, t1, hv1, h9⟩ := spec98 r hl (by rw [h03]; simp) hlt
      have es : (⟨m.plain, s.a, s.bad, 0⟩ : Sm) = s := by rw [hm, ← h01]
      rw [es] at r1 hm1 hv1
      obtain ⟨H', m', xe', xd', v', e', lo, rest⟩ := decM_loop hl n (j + 1) H1 m1 xe1 xd1 (rFld l j s) v1 [(2, v2), (5, [.sc (.int .i64 v1)]), (6, [.sc (.ptr i 0 3)]), (7, [.sc (.ptr p 0 15)]), (8, [.sc (.int .i64 (maskM k))]), (9, [.sc (.int .i64 (pwM (j + 1)))])] (by omega) r1 hm1 hv1 (fun hn => by obtain ⟨h91, h92⟩ := h9 (by omega); exact ⟨rFld_err l (by omega) s, h91, by rw [h92]; exact h03⟩) rfl rfl rfl rfl rfl rfl
      refine ⟨H', m', xe', xd', v', e', stepM (fun R RO RD RT E => ?_) lo, rest⟩
      clear lo rest r r1 t1
      generalize pwM (j + 1) = pn at *
      generalize pwM j = pj at *
      simp [M.b47_0, E.eqs, e2, e5, e6, e7, e8, e9, p1, p2, p3, mb, q]
end

theorem setCells_whole {α : Type} : ∀ (vs l : List α) (p : List α), l.length = vs.length → setCells (p ++ l) p.length vs = p ++ vs
  | [], [], p, _ => by simp [setCells]
  | v :: vs, x :: l, p, h => by
    have := setCells_whole vs l (p ++ [v]) (by simpa using h)
    simp only [setCells]
    rw [show (p ++ x :: l).set p.length v = (p ++ [v]) ++ l by simp]
    rw [show p.length + 1 = (p ++ [v]).length by simp, this]
    simp
theorem Ms.plain_plain (m : Ms) : m.plain.plain = m.plain := by
  unfold Ms.plain Ms.ents
  simp [Function.comp_def]
abbrev zC : List SV := [.int .i64 0, .int .i64 0, .int .i64 0, .int .u64 0, .int .u64 0, .int .u64 0, .nils, .int .u64 0, .bool false, .int .u64 0, .int .u64 0, .int .i64 0, .int .i64 0, .nils, .bool false]

/-- from a message's state behind reading to the answer -/
theorem RM.done {N : Nat} {h hB H : Heap} {i : Nat} {x : SV} {l : List UInt8} {p : Nat} {m : Ms} {xe xd : SV} {a bad : Nat} (r : RM N hB H i x l p m xe xd a bad) (hm : Mod (fun _ => False) h hB) (hb : h.length < hB.length) (Bk : Blk) : FM h (H.set h.length Bk) m xe xd := by
  have hN : hB.length < N := by have := r.bi; have := r.iN; omega
  have m1 : Mod (fun j => j = h.length) H (H.set h.length Bk) := Mod.set _ _ rfl
  refine ⟨(hm.trans r.mod fun _ _ h => h).trans m1 fun j hj e => by omega, r.ent.mod m1 fun j hj e => by have := r.eN j hj; omega, fun j hj => by have := r.eN j hj; omega, fun z hz => ⟨(r.dat z hz).1.mod m1 fun j hj e => by have := ((r.dat z hz).2 j hj).1; omega, fun j hj => ⟨by have := ((r.dat z hz).2 j hj).1; omega, ((r.dat z hz).2 j hj).2⟩⟩,
    r.d.mod m1 fun j hj e => by have := (r.dN j hj).1; omega, fun j hj => ⟨by have := (r.dN j hj).1; omega, (r.dN j hj).2⟩, r.trm, r.num, r.few, r.dl⟩

theorem unB_le (l : List UInt8) : (unB l).length ≤ l.length := by
  unfold unB
  split
  · simp
  · simp

set_option maxHeartbeats 2000000 in
theorem spec47 {h : Heap} {y : SV} {l : List UInt8} (hy : Row h y 1 l.length (Go.Abs.bytes l)) (hl : l.length ≤ 140737488353280) : ∃ h' m xe xd, call 47 [[.sc y]] h = some ([.agg (m.cells xe xd), .sc (.int .i64 (rMsg l).2)], h') ∧ m.plain = (rMsg l).1 ∧ FM h h' m xe xd := by
  obtain ⟨Z, hZ⟩ : ∃ Z : List SV, Z = zC := ⟨_, rfl⟩
  have zl : Z.length = 15 := by rw [hZ]; rfl
  have zc : ∀ c : List SV, c.length = 15 → setCells Z 0 c = c := fun c hc => by have := setCells_whole c Z [] (by rw [zl, hc]); simpa using this
  obtain ⟨H0, hH0⟩ : ∃ H0 : Heap, H0 = h ++ [⟨.var, Z⟩] := ⟨_, rfl⟩
  have mH0 : Mod (fun _ => False) h H0 := by rw [hH0]; exact Mod.app _ _ _
  have bH0 : H0[h.length]? = some ⟨.var, Z⟩ := by rw [hH0]; simp
  have lH0 : H0.length = h.length + 1 := by rw [hH0]; simp
  have hy0 := hy.mod mH0 fun _ _ h => h
  have ln := lenA_row hy0
  have stZ : ∀ {g : Heap} (c : List SV), g[h.length]? = some ⟨.var, Z⟩ → c.length = 15 → storeA g 15 [.sc (.ptr h.length 0 15)] [.agg c] = some ([], g.set h.length ⟨.var, c⟩) := fun c hg hc => by simp [storeA, hg, zl, hc, zc]
  have ldZ : ∀ {g : Heap} {c : List SV}, g[h.length]? = some ⟨.var, c⟩ → c.length = 15 → loadA g true 15 [.sc (.ptr h.length 0 15)] = some ([.agg c], g) := fun hg hc => by simp [loadA, hg, hc, List.take_of_length_le (Nat.le_of_eq hc)]
  have fZ : ∀ {g : Heap} {c : List SV}, g[h.length]? = some ⟨.var, c⟩ → c.length = 15 → freshB g h.length 15 = true := fun hg hc => freshB_of hg hc.symm
  have zz : Ms.zero.cells .nils .nils = Z := by rw [hZ]; rfl
  have res : ∀ {g : Heap} {c : List SV} {v : Int}, g[h.length]? = some ⟨.var, c⟩ → c.length = 15 → ∀ e : Env, e.get 2 = [.sc (.ptr h.length 0 15)] → e.get 3 = [.sc (.int .i64 v)] → resA e g M.a47.res = some [.agg c, .sc (.int .i64 v)] := fun hg hc e he2 he3 => by
    have := ldZ hg hc
    simp [loadA, hg, hc] at this
    simp [M.a47, he2, he3, hg, hc, freshB, List.take_of_length_le (Nat.le_of_eq hc)]
  -- an answer that is nothing
  have out0 : ∀ {g : Heap} (v : Nat), Mod (fun _ => False) h g → g[h.length]? = some ⟨.var, Z⟩ → (∀ R RO RD RT, Mach F O R RO RD RT → R M.a47.body (envFrom 0 [[.sc y]]) h = some (.ret, [(2, [.sc (.ptr h.length 0 15)]), (3, [.sc (.int .i64 v)])], g.set h.length ⟨.var, Z⟩)) →
      ∃ h' m xe xd, call 47 [[.sc y]] h = some ([.agg (m.cells xe xd), .sc (.int .i64 v)], h') ∧ m.plain = Ms.zero ∧ FM h h' m xe xd := fun {g} v mg hg hr => by
    have m1 : Mod (fun j => j = h.length) g (g.set h.length ⟨.var, Z⟩) := Mod.set _ _ rfl
    have f := FM.zero (mg.trans m1 fun j hj e => by omega)
    refine ⟨_, Ms.zero, .nils, .nils, callX (hh := Go.Abs.trim h (g.set h.length ⟨.var, Z⟩) [.agg (Ms.zero.cells .nils .nils), .sc (.int .i64 v)]) rfl (by rfl : F 47 = some M.a47) (fun R RO RD RT E => ?_), rfl, f.trim _⟩
    rw [hr R RO RD RT E, Go.Abs.finA_ret, res (get_set_same hg) zl _ rfl rfl, zz]
  unfold rMsg
  by_cases hbig : 1024 < l.length
  · rw [if_pos hbig]
    have c1 : (1024 : Int) < l.length := by omega
    refine out0 12 mH0 bH0 fun R RO RD RT E => ?_
    have st := stZ Z bH0 zl
    have fz := fZ bH0 zl
    generalize H0.set h.length ⟨.var, Z⟩ = H1 at *
    simp [M.a47, E.eqs, ← hZ, ← hH0, zl, ln, c1, st]
  rw [if_neg hbig]
  have c1 : ¬ (1024 : Int) < l.length := by omega
  obtain ⟨H1, z, qU, fU⟩ := spec97 hy0 hl
  have bH1 := fU.mod.get bH0 fun h => h
  have mH1 := mH0.trans fU.mod fun _ _ h => h
  have un := unE_lt l
  by_cases hu : unE l = 0
  case neg =>
    rw [if_pos hu]
    have hu' : ¬ ((unE l : Nat) : Int) = 0 := by omega
    refine out0 (unE l) mH1 bH1 fun R RO RD RT E => ?_
    have st := stZ Z bH1 zl
    generalize H1.set h.length ⟨.var, Z⟩ = H2 at *
    generalize unE l = ue at *
    simp [M.a47, E.eqs, ← hZ, ← hH0, zl, ln, c1, qU, hu, hu', st]
  rw [if_neg (by simp [hu])]
  rw [hu] at qU
  have hbl := unB_le l
  generalize unB l = b at *
  obtain ⟨n0, r0⟩ := spec73 fU.row (by omega)
  obtain ⟨H2, hH2⟩ : ∃ H2 : Heap, H2 = H1 ++ [⟨.row 5 1, Go.Abs.bytes b⟩, ⟨.var, [.sl H1.length 0 b.length b.length, .int .i64 0, .int .i64 0]⟩] := ⟨_, rfl⟩
  have m12 : Mod (fun _ => False) H1 H2 := by rw [hH2]; exact Mod.app _ _ _
  have l12 : H2.length = H1.length + 2 := by rw [hH2]; simp
  rw [← hH2] at n0 r0
  obtain ⟨i, hi⟩ : ∃ i, i = H1.length + 1 := ⟨_, rfl⟩
  have bx : ∀ j, blk (SV.sl H1.length 0 b.length b.length) j → j = H1.length := fun j hj => by simpa [blk, eq_comm] using hj
  generalize SV.sl H1.length 0 b.length b.length = x at *
  rw [← hi] at n0 r0
  obtain ⟨H3, hH3⟩ : ∃ H3 : Heap, H3 = H2 ++ [⟨.var, Z⟩] := ⟨_, rfl⟩
  have m23 : Mod (fun _ => False) H2 H3 := by rw [hH3]; exact Mod.app _ _ _
  have l23 : H3.length = H2.length + 1 := by rw [hH3]; simp
  have hx := r0.row.lt
  have l01 : H0.length ≤ H1.length := fU.mod.1
  have rm0 : RM H3.length H0 H3 i x b H2.length Ms.zero .nils .nils 0 0 :=
    ⟨r0.beside m23 (fun h => h) fun _ _ h => h, by rw [hH3, zz]; simp, by omega, fun hb => by have := hx _ hb; omega, by omega, by omega, fun j hj => by have := hx j hj; omega, Nat.le_refl _, .inl ⟨rfl, rfl, rfl⟩, fun _ h => h.elim, fun z hz => by simp [Ms.zero] at hz, .inl ⟨rfl, rfl, rfl⟩, fun _ h => h.elim, fun z hz => by simp [Ms.zero] at hz, zero_num,
      (fU.mod.trans m12 fun _ _ h => h).trans m23 fun _ _ h => h, by omega, by omega, by simp [Ms.zero], by simp [Ms.zero]⟩
  clear r0
  generalize hN : H3.length = N at *
  generalize hp : H2.length = p at *
  have cl : ∀ (m' : Ms) (u v : SV), (m'.cells u v).length = 15 := fun _ _ _ => rfl
  have z6 : ((6 : Nat) : Int) = 6 := rfl
  have z7 : ((7 : Nat) : Int) = 7 := rfl
  -- the head
  have hd : ∃ (H5 : Heap), RM N H0 H5 i x b p (rHead b).m .nils .nils (rHead b).a (rHead b).bad ∧ ∀ R RO RD RT, Mach F O R RO RD RT → ∃ e8 : Env, e8.get 2 = [.sc (.ptr h.length 0 15)] ∧ e8.get 5 = [.sc (.int .i64 0)] ∧ e8.get 6 = [.sc (.ptr i 0 3)] ∧ e8.get 7 = [.sc (.ptr p 0 15)] ∧ e8.get 8 = [.sc (.int .i64 (maskM (rHead b).m.k))] ∧
      ∀ r, R (sqd 9 M.a47.body) e8 H5 = r → R M.a47.body (envFrom 0 [[.sc y]]) h = r := by
    have q1 := spec74 rm0.rd (most := 6) (by omega)
    have s1 := rByte_go rm0.rd 6
    have hb1 := (rByte_lt b 0 0 6).2.2
    have hmo := rByte_most b 0 0 6
    rw [z6] at q1
    unfold rHead
    generalize rByte b 0 0 6 = D1 at *
    obtain ⟨n1, a1, b1⟩ := D1
    simp only at q1 s1 hb1 hmo ⊢
    have c3 := rm0.cell s1.mod
    obtain ⟨rm1, t1⟩ := rm0.numU (m' := { Ms.zero with k := (n1 : Int) }) s1 rfl rfl ⟨zero_num.term, zero_num.index, zero_num.lt, zero_num.cm, zero_num.bi, zero_num.bt, zero_num.off⟩
    have st1 := put_cell c3 (cl _ _ _) (k := 0) (by omega) (.int .i64 n1)
    have fl1 := fld_cell c3 (cl _ _ _) 0 0
    have e1 : (Ms.zero.cells .nils .nils).set 0 (.int .i64 n1) = ({ Ms.zero with k := (n1 : Int) } : Ms).cells .nils .nils := rfl
    rw [e1] at st1
    generalize setR H3 i x a1 b1 = g1 at *
    obtain ⟨H4, hH4⟩ : ∃ H4 : Heap, H4 = g1.set p ⟨.var, ({ Ms.zero with k := (n1 : Int) } : Ms).cells .nils .nils⟩ := ⟨_, rfl⟩
    rw [← hH4] at rm1 t1 st1
    have w1 := wi64n hb1
    have fl4 := fld_cell rm1.at_ (cl _ _ _) 0 0
    have ld4 := load_cell rm1.at_ (cl _ _ _) (k := 0) (v := .int .i64 n1) rfl
    have qf := spec50 H4 n1
    have top : ∀ R RO RD RT, Mach F O R RO RD RT → ∀ r, R (sqd 8 M.a47.body) [(2, [.sc (.ptr h.length 0 15)]), (5, [.sc (.int .i64 0)]), (6, [.sc (.ptr i 0 3)]), (7, [.sc (.ptr p 0 15)]), (8, [.sc (.int .i64 (maskM n1))])] H4 = r → R M.a47.body (envFrom 0 [[.sc y]]) h = r := fun R RO RD RT E r hr => by
      clear rm0 rm1 t1 s1 hx
      refine seqM E (e1 := [(0, [.sc y]), (2, [.sc (.ptr h.length 0 15)])]) (h1 := H0) ?_ (seqM E (e1 := [(0, [.sc y]), (2, [.sc (.ptr h.length 0 15)]), (12, [.sc (.bool false)])]) (h1 := H0) ?_ (seqM E (e1 := [(2, [.sc (.ptr h.length 0 15)]), (4, [.sc z]), (5, [.sc (.int .i64 0)])]) (h1 := H1) ?_ (seqM E (e1 := [(2, [.sc (.ptr h.length 0 15)]), (4, [.sc z]), (5, [.sc (.int .i64 0)]), (20, [.sc (.bool false)])]) (h1 := H1) ?_ (seqM E (e1 := [(2, [.sc (.ptr h.length 0 15)]), (5, [.sc (.int .i64 0)]), (6, [.sc (.ptr i 0 3)])]) (h1 := H2) ?_
        (seqM E (e1 := [(2, [.sc (.ptr h.length 0 15)]), (5, [.sc (.int .i64 0)]), (6, [.sc (.ptr i 0 3)]), (7, [.sc (.ptr p 0 15)])]) (h1 := H3) ?_ (seqM E (e1 := [(2, [.sc (.ptr h.length 0 15)]), (5, [.sc (.int .i64 0)]), (6, [.sc (.ptr i 0 3)]), (7, [.sc (.ptr p 0 15)])]) (h1 := H4) ?_ (seqM E (e1 := [(2, [.sc (.ptr h.length 0 15)]), (5, [.sc (.int .i64 0)]), (6, [.sc (.ptr i 0 3)]), (7, [.sc (.ptr p 0 15)]), (8, [.sc (.int .i64 (maskM n1))])]) (h1 := H4) ?_ hr)))))))
      · simp [E.eqs, ← hZ, ← hH0, zl]
      · simp [E.eqs, ln, c1]
      · simp [E.eqs, qU]
      · simp [E.eqs]
      · simp [E.eqs, n0]
      · simp [E.eqs, ← hZ, ← hH3, zl, hp]
      · simp [E.eqs, q1, w1, fl1, st1]
      · simp [E.eqs, fl4, ld4, qf]
    by_cases hn : n1 = 0
    · rw [if_pos hn]
      subst hn
      refine ⟨H4, rm1, fun R RO RD RT E => ⟨[(2, [.sc (.ptr h.length 0 15)]), (5, [.sc (.int .i64 0)]), (6, [.sc (.ptr i 0 3)]), (7, [.sc (.ptr p 0 15)]), (8, [.sc (.int .i64 0)]), (33, [.sc (.bool false)])], rfl, rfl, rfl, rfl, rfl, fun r hr => top R RO RD RT E r (seqM E ?_ hr)⟩⟩
      have : maskM 0 = 0 := by decide
      simp [E.eqs, this]
    · rw [if_neg hn]
      have hmask : ¬ ((maskM (n1 : Int) : Nat) : Int) = 0 := by
        rcases kindsM (n1 : Int) with hk | hk | hk | hk | hk | hk | hk
        case inr.inr.inr.inr.inr.inr => omega
        all_goals rw [hk]; decide
      have hmask' : ¬ maskM (n1 : Int) = 0 := by omega
      have q2 := spec74 rm1.rd (most := 7) (by omega)
      have s2 := rByte_go rm1.rd 7
      have hb2 := (rByte_lt b a1 b1 7).2.2
      rw [z7] at q2
      generalize rByte b a1 b1 7 = D2 at *
      obtain ⟨n2, a2, b2⟩ := D2
      simp only at q2 s2 hb2 ⊢
      have c5 := rm1.cell s2.mod
      obtain ⟨rm2, t2⟩ := rm1.numU (m' := { Ms.zero with k := (n1 : Int), f := (n2 : Int) }) s2 rfl rfl ⟨zero_num.term, zero_num.index, zero_num.lt, zero_num.cm, zero_num.bi, zero_num.bt, zero_num.off⟩
      have st2 := put_cell c5 (cl _ _ _) (k := 1) (by omega) (.int .i64 n2)
      have fl5 := fld_cell c5 (cl _ _ _) 0 1
      have e2 : (({ Ms.zero with k := (n1 : Int) } : Ms).cells .nils .nils).set 1 (.int .i64 n2) = ({ Ms.zero with k := (n1 : Int), f := (n2 : Int) } : Ms).cells .nils .nils := rfl
      rw [e2] at st2
      generalize setR H4 i x a2 b2 = g2 at *
      obtain ⟨H5, hH5⟩ : ∃ H5 : Heap, H5 = g2.set p ⟨.var, ({ Ms.zero with k := (n1 : Int), f := (n2 : Int) } : Ms).cells .nils .nils⟩ := ⟨_, rfl⟩
      rw [← hH5] at rm2 t2 st2
      have w2 := wi64n hb2
      have q3 := spec74 rm2.rd (most := 7) (by omega)
      have s3 := rByte_go rm2.rd 7
      have hb3 := (rByte_lt b a2 b2 7).2.2
      rw [z7] at q3
      generalize rByte b a2 b2 7 = D3 at *
      obtain ⟨n3, a3, b3⟩ := D3
      simp only at q3 s3 hb3 ⊢
      have c6 := rm2.cell s3.mod
      obtain ⟨rm3, t3⟩ := rm2.numU (m' := { Ms.zero with k := (n1 : Int), f := (n2 : Int), t := (n3 : Int) }) s3 rfl rfl ⟨zero_num.term, zero_num.index, zero_num.lt, zero_num.cm, zero_num.bi, zero_num.bt, zero_num.off⟩
      have st3 := put_cell c6 (cl _ _ _) (k := 2) (by omega) (.int .i64 n3)
      have fl6 := fld_cell c6 (cl _ _ _) 0 2
      have e3 : (({ Ms.zero with k := (n1 : Int), f := (n2 : Int) } : Ms).cells .nils .nils).set 2 (.int .i64 n3) = ({ Ms.zero with k := (n1 : Int), f := (n2 : Int), t := (n3 : Int) } : Ms).cells .nils .nils := rfl
      rw [e3] at st3
      generalize setR H5 i x a3 b3 = g3 at *
      obtain ⟨H6, hH6⟩ : ∃ H6 : Heap, H6 = g3.set p ⟨.var, ({ Ms.zero with k := (n1 : Int), f := (n2 : Int), t := (n3 : Int) } : Ms).cells .nils .nils⟩ := ⟨_, rfl⟩
      rw [← hH6] at rm3 t3 st3
      have w3 := wi64n hb3
      refine ⟨H6, rm3, fun R RO RD RT E => ⟨[(2, [.sc (.ptr h.length 0 15)]), (5, [.sc (.int .i64 0)]), (6, [.sc (.ptr i 0 3)]), (7, [.sc (.ptr p 0 15)]), (8, [.sc (.int .i64 (maskM n1))])], rfl, rfl, rfl, rfl, rfl, fun r hr => top R RO RD RT E r (seqM E ?_ hr)⟩⟩
      clear top rm0 rm1 rm2 rm3 t1 t2 t3 s1 s2 s3 hx hH4 hH5 hH6
      generalize maskM (n1 : Int) = mk at *
      simp [E.eqs, hmask, hmask', q2, q3, w2, w3, fl5, fl6, st2, st3]
  obtain ⟨H5, rmH, hd⟩ := hd
  obtain ⟨hp1, hp2, hp3⟩ := rHead_plain b
  have hS : rBody b = rFromM b (rHead b).m.k 10 0 (rHead b) := rfl
  obtain ⟨H6, m6, xe6, xd6, v, e', lo, rmF, hm6, hv, g2, g5, g6, g7⟩ := decM_loop (v2 := [.sc (.ptr h.length 0 15)]) (k := (rHead b).m.k) (by omega) 10 0 H5 (rHead b).m .nils .nils (rHead b) 0 [(2, [.sc (.ptr h.length 0 15)]), (5, [.sc (.int .i64 0)]), (6, [.sc (.ptr i 0 3)]), (7, [.sc (.ptr p 0 15)]), (8, [.sc (.int .i64 (maskM (rHead b).m.k))]), (9, [.sc (.int .i64 1)])] (by omega) rmH hp1 ⟨fun h => absurd hp2 h, fun _ => .inl rfl⟩ (fun _ => ⟨hp2, rfl, hp3⟩) rfl rfl rfl rfl rfl rfl
  rw [← hS] at rmF hm6 hv
  clear rm0 rmH
  have lo := loop_run lo
  have qE := spec77 rmF.rd
  have qR := spec24 rmF.at'
  have hR : rightM m6 = rightM (rBody b).m := rightM_plain (by rw [← hm6, Ms.plain_plain])
  rw [hR] at qR
  have bZ : H6[h.length]? = some ⟨.var, Z⟩ := rmF.mod.get bH0 fun h => h
  have mZ : Mod (fun _ => False) h H6 := mH0.trans rmF.mod fun _ _ h => h
  have hE : (v = 0 ∧ errS b (rBody b) = rEnd b (rBody b).a (rBody b).bad) ∨ (v ≠ 0 ∧ errS b (rBody b) = v) := by
    unfold errS
    obtain ⟨v1, v2⟩ := hv
    by_cases h0 : (rBody b).err = 0
    · rw [if_neg (by simp [h0])]
      rcases v2 h0 with h1 | ⟨h1, h2⟩
      · exact .inl ⟨h1, rfl⟩
      · refine .inr ⟨by omega, ?_⟩
        unfold rEnd
        rw [if_neg (fun h => h2 h.1), h1]
    · rw [if_pos h0]
      have := v1 h0
      exact .inr ⟨by omega, this.symm⟩
  -- to the questions behind
  have mid : ∀ R RO RD RT, Mach F O R RO RD RT → ∃ e11 : Env, e11.get 2 = [.sc (.ptr h.length 0 15)] ∧ e11.get 5 = [.sc (.int .i64 (errS b (rBody b) : Nat))] ∧ e11.get 7 = [.sc (.ptr p 0 15)] ∧ ∀ r, R (sqd 11 M.a47.body) e11 H6 = r → R M.a47.body (envFrom 0 [[.sc y]]) h = r := fun R RO RD RT E => by
    obtain ⟨e8, k2, k5, k6, k7, k8, top⟩ := hd R RO RD RT E
    have lo := E.run lo
    clear rmF hd qR
    have up : ∀ r, R (sqd 10 M.a47.body) [(2, [.sc (.ptr h.length 0 15)]), (5, [.sc (.int .i64 v)]), (6, [.sc (.ptr i 0 3)]), (7, [.sc (.ptr p 0 15)])] H6 = r → R M.a47.body (envFrom 0 [[.sc y]]) h = r := fun r hr => by
      refine top r (seqM E ?_ hr)
      simp [E.eqs, k2, k5, k6, k7, k8, lo, g2, g5, g6, g7]
    rcases hE with ⟨rfl, he⟩ | ⟨hv0, he⟩
    · rw [he]
      refine ⟨[(2, [.sc (.ptr h.length 0 15)]), (5, [.sc (.int .i64 (rEnd b (rBody b).a (rBody b).bad : Nat))]), (7, [.sc (.ptr p 0 15)])], rfl, rfl, rfl, fun r hr => up r (seqM E ?_ hr)⟩
      simp [E.eqs, qE]
    · rw [he]
      have hv0' : ¬ (v : Int) = 0 := by omega
      refine ⟨[(2, [.sc (.ptr h.length 0 15)]), (5, [.sc (.int .i64 v)]), (6, [.sc (.ptr i 0 3)]), (7, [.sc (.ptr p 0 15)]), (58, [.sc (.bool false)])], rfl, rfl, rfl, fun r hr => up r (seqM E ?_ hr)⟩
      simp [E.eqs, hv0, hv0']
  have cp := rmF.at_
  have ldP : loadA H6 true 15 [.sc (.ptr p 0 15)] = some ([.agg (m6.cells xe6 xd6)], H6) := by simp [loadA, cp, cl, List.take_of_length_le]
  have stz := stZ Z bZ zl
  have stm := stZ (m6.cells xe6 xd6) bZ (cl _ _ _)
  have dn := rmF.done (h := h) mH0 (by omega) ⟨.var, m6.cells xe6 xd6⟩
  simp only
  generalize errS b (rBody b) = er at *
  by_cases h0 : er = 0
  · subst h0
    cases hr : rightM (rBody b).m
    · have he : (if (0 = 0 ∧ false = false) then 11 else 0 : Nat) = 11 := rfl
      rw [he, if_neg (by omega)]
      rw [hr] at qR
      refine out0 11 mZ bZ fun R RO RD RT E => ?_
      obtain ⟨e11, k2, k5, k7, up⟩ := mid R RO RD RT E
      clear rmF hd mid dn
      refine up _ ?_
      generalize H6.set h.length ⟨.var, Z⟩ = H7 at *
      generalize m6.cells xe6 xd6 = c6 at *
      simp [M.a47, sqd, E.eqs, k2, k5, k7, ldP, qR, ← hZ, stz]
    · have he : (if (0 = 0 ∧ true = false) then 11 else 0 : Nat) = 0 := rfl
      rw [he, if_pos rfl]
      rw [hr] at qR
      refine ⟨_, m6, xe6, xd6, callX (hh := Go.Abs.trim h (H6.set h.length ⟨.var, m6.cells xe6 xd6⟩) [.agg (m6.cells xe6 xd6), .sc (.int .i64 ((0 : Nat) : Int))]) rfl (by rfl : F 47 = some M.a47) (fun R RO RD RT E => ?_), hm6, dn.trim _⟩
      obtain ⟨e11, k2, k5, k7, up⟩ := mid R RO RD RT E
      have rs := res (v := ((0 : Nat) : Int)) (get_set_same (x := ⟨.var, m6.cells xe6 xd6⟩) bZ) (cl _ _ _)
      clear rmF hd mid dn
      refine (congrArg (finA h M.a47.res) (up (some (.ret, [(2, [.sc (.ptr h.length 0 15)]), (3, [.sc (.int .i64 0)])], H6.set h.length ⟨.var, m6.cells xe6 xd6⟩)) ?_)).trans ?_
      · generalize H6.set h.length ⟨.var, m6.cells xe6 xd6⟩ = H7 at *
        generalize m6.cells xe6 xd6 = c6 at *
        simp [M.a47, sqd, E.eqs, k2, k5, k7, ldP, qR, stm]
      · rw [Go.Abs.finA_ret, rs _ rfl rfl]
  · have he : (if er = 0 ∧ rightM (rBody b).m = false then 11 else er) = er := if_neg fun h => h0 h.1
    rw [he, if_neg h0]
    have h0' : ¬ (er : Int) = 0 := by omega
    refine out0 er mZ bZ fun R RO RD RT E => ?_
    obtain ⟨e11, k2, k5, k7, up⟩ := mid R RO RD RT E
    clear rmF hd mid dn
    refine up _ ?_
    generalize H6.set h.length ⟨.var, Z⟩ = H7 at *
    generalize m6.cells xe6 xd6 = c6 at *
    simp [M.a47, sqd, E.eqs, k2, k5, k7, h0, h0', ← hZ, stz]
end Go.Proofs.Ytoghoddofokekaa
end

