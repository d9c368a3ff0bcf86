/- The abstract machine, part 5: memory: reading, storing, new blocks, slices, append. -/
import Derived.Test.YtdodhmidhcpnnaaX4
import Derived.Laws.IdiomStrings
set_option linter.unusedVariables false
set_option linter.unusedSimpArgs false
namespace Go.Abs
section
variable {P : Program} {base : Nat} {σ : Nat → Addr} {h h' : Heap} {w : World} {tv : TV}

/-- reading n cells from place o of block b on -/
theorem run_cells (H : HR base σ h w) {b o n : Nat} {B : Blk} (hB : h[b]? = some B) (hn : o + n ≤ B.c.length) :
    ∃ vs : List Value, (loadCells ((σ b).add o) n).run P w = .ok vs.toArray w ∧ All2 (SVR σ h w) ((B.c.drop o).take n) vs := by
  have hex : ∀ i, i < n → ∃ v, w.cell? (((σ b).add o).add i) = some v ∧ ∀ x, B.c[o + i]? = some x → SVR σ h w x v := fun i hi => by
    obtain ⟨v, h1, h2⟩ := H.read hB (i := o + i) (x := B.c[o + i]) (List.getElem?_eq_getElem (by omega))
    exact ⟨v, by rw [add_add]; exact h1, fun x hx => by rw [List.getElem?_eq_getElem (by omega)] at hx; injection hx with hx; subst hx; exact h2⟩
  let f : Nat → Value := fun i => if hi : i < n then (hex i hi).choose else undef
  have hf : ∀ i (hi : i < n), w.cell? (((σ b).add o).add i) = some (f i) ∧ ∀ x, B.c[o + i]? = some x → SVR σ h w x (f i) := fun i hi => by
    simp only [f, dif_pos hi]
    exact (hex i hi).choose_spec
  refine ⟨(List.range n).map f, run_loadCells w _ n f fun j hj => (hf j hj).1, All2.of_get (by simp; omega) fun i a v ha hv => ?_⟩
  have hi : i < n := by
    rcases Nat.lt_or_ge i n with hlt | hge
    · exact hlt
    · rw [List.getElem?_eq_none (by simp; omega)] at hv; cases hv
  rw [List.getElem?_take, if_pos hi, List.getElem?_drop] at ha
  simp only [List.getElem?_map, List.getElem?_range hi, Option.map_some] at hv
  injection hv with hv
  subst hv
  exact (hf i hi).2 a ha

/-- is the type a struct or an array, of so many cells? -/
def aggTy (P : Program) (t : TypeId) : Option Bool :=
  match P.underlying t with
  | some (.struct _) | some (.array _ _) => some true
  | some _ => some false
  | none => none
def szTy (P : Program) (t : TypeId) : Option Nat := (P.info? t).map (·.size)

theorem run_isAgg {t : TypeId} {b : Bool} (h : aggTy P t = some b) (w : World) : (isAgg t).run P w = .ok b w := by
  unfold aggTy at h
  unfold isAgg
  cases hu : P.underlying t with
  | none => simp [hu] at h
  | some d => rw [Sem.run_bind, run_underlying hu w]; cases d <;> simp_all
theorem run_sizeTy {t : TypeId} {n : Nat} (h : szTy P t = some n) (w : World) : (sizeOf t).run P w = .ok n w := by
  unfold szTy at h
  cases hi : P.info? t with
  | none => simp [hi] at h
  | some i => simp [hi] at h; subst h; simp [sizeOf, typeInfo, hi]

theorem g_load (H : HR base σ h w) {ag : Bool} {n : Nat} {t : TypeId} (ht : aggTy P t = some ag) (hz : szTy P t = some n) (h1 : ag = false → n = 1) {b o k : Nat} {v : Value} (hv : TVR σ h w [.sc (.ptr b o k)] v)
    (hs : (match h[b]? with
      | some B => if k = B.c.length ∧ o + n ≤ B.c.length then (if ag then some ([AV.agg ((B.c.drop o).take n)], h) else match B.c[o]? with | some v => some ([AV.sc v], h) | none => none) else none
      | none => none) = some (tv, h')) : h' = h ∧ Good P base σ h w (Instr.loadAt t v) tv h := by
  split at hs
  · rename_i B hB
    split at hs
    · rename_i hc
      have hp := fresh_ptr (w := w) hv (by unfold freshB; rw [hB]; simpa using hc.1)
      subst hp
      split at hs
      · rename_i hag
        injection hs with hs
        injection hs with e1 e2
        subst e1 e2 hag
        obtain ⟨vs, hr, ha⟩ := run_cells (P := P) H hB hc.2
        exact ⟨rfl, Good.same H (v := .agg vs.toArray) (by simp [Instr.loadAt, Instr.sureAddr, loadVar, run_isAgg ht, run_sizeTy hz, hr]) ⟨vs, rfl, ha⟩⟩
      · rename_i hag
        split at hs
        · rename_i x hx
          injection hs with hs
          injection hs with e1 e2
          subst e1 e2
          obtain ⟨u, h2, h3⟩ := H.read hB hx
          have hag' : ag = false := by simpa using hag
          subst hag'
          exact ⟨rfl, Good.same H (v := u) (by simp [Instr.loadAt, Instr.sureAddr, loadVar, run_isAgg ht, h2]) h3⟩
        · contradiction
    · contradiction
  · contradiction

theorem setCells_length {α : Type} : ∀ (cs : List α) (l : List α) (o : Nat), (setCells l o cs).length = l.length
  | [], l, o => rfl
  | x :: r, l, o => by simp only [setCells]; rw [setCells_length r]; simp

theorem setCells_R {α β : Type} {R : α → β → Prop} : ∀ {cs : List α} {vs : List β} (l : List α) (m : List β) (o : Nat), All2 R cs vs → (∀ (i : Nat) (x : α), l[i]? = some x → ∃ v, m[i]? = some v ∧ R x v) →
    ∀ (i : Nat) (x : α), (setCells l o cs)[i]? = some x → ∃ v, (setCells m o vs)[i]? = some v ∧ R x v
  | [], [], _, _, _, _, h => h
  | c :: cs, v :: vs, l, m, o, ha, h => setCells_R (l.set o c) (m.set o v) (o + 1) ha.2 fun i x hx => by
    rcases set_get hx with ⟨rfl, rfl⟩ | ⟨hne, hx⟩
    · have hlt : i < l.length := by have := lt_of_get hx; simpa using this
      obtain ⟨u, hu, _⟩ := h i _ (List.getElem?_eq_getElem hlt)
      exact ⟨v, get_set_same hu, ha.1⟩
    · obtain ⟨u, hu, hr⟩ := h i x hx
      exact ⟨u, by rw [get_set_other hne]; exact hu, hr⟩
  | [], _ :: _, _, _, _, ha, _ => ha.elim
  | _ :: _, [], _, _, _, ha, _ => ha.elim

theorem run_storeThaw (c o : Nat) (e : TypeId) (fr : Nat × Nat) : ∀ (vs : List Value) (i : Nat) (arr : Array Value) (w : World), w.heap[c]? = some (.cells arr e fr) → thawed fr arr.size → o + i + vs.length ≤ arr.size → (∀ v ∈ vs, v.oneCell' = true) →
    ∃ w' arr', (storeCells ⟨c, o, none⟩ vs i).run P w = .ok () w' ∧ w'.heap[c]? = some (.cells arr' e fr) ∧ arr'.size = arr.size ∧ arr'.toList = setCells arr.toList (o + i) vs ∧ (∀ k, k ≠ c → w'.heap[k]? = w.heap[k]?) ∧
      w'.os = w.os ∧ w'.tape = w.tape ∧ w'.output = w.output ∧ w'.heap.size = w.heap.size
  | [], i, arr, w, hg, _, _, _ => ⟨w, arr, rfl, hg, rfl, rfl, fun _ _ => rfl, rfl, rfl, rfl, rfl⟩
  | v :: rest, i, arr, w, hg, ht, hl, h1 => by
    have hi : o + i < arr.size := by simp at hl; omega
    have hadd : (⟨c, o, none⟩ : Addr).add i = ⟨c, o + i, none⟩ := by unfold Addr.add; split <;> simp_all
    have hcell : w.cell? ⟨c, o + i, none⟩ = some arr[o + i] := by simp [World.cell?, hg, hi]
    have hfro : w.frozen? ⟨c, o + i, none⟩ = false := by
      have := ht.2 (o + i) hi
      simp only [World.frozen?, hg]
      simpa using this
    have hst : (store ((⟨c, o, none⟩ : Addr).add i) v).run P w = .ok () (w.setCell ⟨c, o + i, none⟩ v) := by
      rw [hadd, run_store P w _ v _ (h1 v (by simp)), hcell]
      simp [hfro]
    have hg' : (w.setCell ⟨c, o + i, none⟩ v).heap[c]? = some (.cells (arr.setIfInBounds (o + i) v) e fr) := by
      simp [World.setCell, Array.getElem?_modify, hg]
    obtain ⟨w', arr', r1, r2, r3, r4, r5, r6, r7, r8, r9⟩ := run_storeThaw c o e fr rest (i + 1) (arr.setIfInBounds (o + i) v) (w.setCell ⟨c, o + i, none⟩ v) hg' (by simpa using ht) (by simp at hl ⊢; omega) (fun x hx => h1 x (by simp [hx]))
    refine ⟨w', arr', ?_, r2, by simpa using r3, ?_, fun k hk => (r5 k hk).trans (heap_setCell_other w _ k v hk), r6, r7, r8, by simpa using r9⟩
    · simp only [storeCells, Sem.run_bind, hst, Result.andThen_ok, r1]
    · rw [r4]
      simp only [setCells, Array.toList_setIfInBounds]
      rfl

theorem All2.one {x : List SV} {vs : List Value} (ha : All2 (SVR σ h w) x vs) : ∀ v ∈ vs, v.oneCell' = true := fun v hv => by
  obtain ⟨a, _, hr⟩ := All2.mem_right ha v hv
  exact hr.one

/-- a value's cells -/
theorem cells_R {y : AV} {cs : List SV} (hy : y.cells? = some cs) {v : Value} (hv : AVR σ h w y v) : ∃ vs : List Value, v.cells = vs.toArray ∧ All2 (SVR σ h w) cs vs := by
  cases y with
  | sc x =>
    simp only [AV.cells?] at hy
    injection hy with hy
    subst hy
    have h1 := SVR.one hv
    refine ⟨[v], ?_, hv, trivial⟩
    cases v <;> first | rfl | simp [Value.oneCell'] at h1
  | agg l =>
    simp only [AV.cells?] at hy
    injection hy with hy
    subst hy
    obtain ⟨vs, rfl, ha⟩ := hv
    exact ⟨vs, rfl, ha⟩
  | imm n l => simp [AV.cells?] at hy
  | undef => simp [AV.cells?] at hy

theorem g_store (H : HR base σ h w) {n : Nat} {t : TypeId} (hz : szTy P t = some n) {b o k : Nat} {y : AV} {v u : Value} (hv : TVR σ h w [.sc (.ptr b o k)] v) (hu : AVR σ h w y u)
    (hs : (match y.cells?, h[b]? with
      | some cs, some B => if B.k ≠ .ro ∧ k = B.c.length ∧ o + n ≤ B.c.length ∧ cs.length = n then some (([] : TV), h.set b ⟨B.k, setCells B.c o cs⟩) else none
      | _, _ => none) = some (tv, h')) : tv = [] ∧ ∃ w', (Instr.storeAt t v u).run P w = .ok () w' ∧ HR base σ h' w' ∧ Ext σ h w σ h' w' := by
  split at hs
  · rename_i cs B hcs hB
    split at hs
    · rename_i hc
      obtain ⟨hk, hk2, hk3, hk4⟩ := hc
      injection hs with hs
      injection hs with e1 e2
      subst e1 e2
      have hp := fresh_ptr (w := w) hv (by unfold freshB; rw [hB]; simpa using hk2)
      subst hp
      obtain ⟨vs, hvs, ha⟩ := cells_R hcs hu
      obtain ⟨c, arr, e, fr, s1, s2, s3, s4, s5, s6, s7⟩ := H.open_own hB hk
      have hl := All2.length ha
      obtain ⟨w', arr', r1, r2, r3, r4, r5, r6, r7, r8, r9⟩ := run_storeThaw (P := P) c o e fr vs 0 arr w s3 s4 (by omega) (All2.one ha)
      have hlen : (setCells B.c o cs).length = B.c.length := setCells_length _ _ _
      have hrel : ∀ (i : Nat) (x : SV), (setCells B.c o cs)[i]? = some x → ∃ v, arr'[i]? = some v ∧ SVR σ h w x v := fun i x hx => by
        obtain ⟨q, hq, hr⟩ := setCells_R (R := SVR σ h w) B.c arr.toList o ha (fun i x hx => by obtain ⟨q, hq, hr⟩ := s7 i x hx; exact ⟨q, by simpa using hq, hr⟩) i x hx
        refine ⟨q, ?_, hr⟩
        rw [← Array.getElem?_toList, r4, Nat.add_zero]
        exact hq
      refine ⟨rfl, w', ?_, H.rewrite hB hk s1 s3 r3 _ (by omega) r2 r5 r6 r7 r8 r9 (by omega) hrel, Ext.rewrite H hB hk s1 s3 r3 _ (by omega) r2 r5 r6 r7 r8 r9⟩
      have hadd : (σ b).add o = ⟨c, o, none⟩ := by rw [s1]; exact cell_add0 c o
      simp only [Instr.storeAt, Instr.sureAddr, Sem.run_bind, Sem.run_pure, Result.andThen_ok, storeVar, run_sizeTy hz, hvs, hadd, List.size_toArray, ← hl, hk4, ne_eq, not_true_eq_false, if_false]
      exact r1
    · contradiction
  · contradiction

/-- a new own block of what stands in the cells -/
theorem new_R (H : HR base σ h w) (k : BK) (hk : k ≠ .ro) {cs : List SV} {vs : List Value} (ha : All2 (SVR σ h w) cs vs) (e : TypeId) (hrow : ∀ e' sz, k = .row e' sz → e = e' ∧ 0 < sz) :
    HR base (upd σ h.length ⟨w.heap.size, 0, none⟩) (h ++ [⟨k, cs⟩]) (w.alloc (.cells vs.toArray e)) ∧ Ext σ h w (upd σ h.length ⟨w.heap.size, 0, none⟩) (h ++ [⟨k, cs⟩]) (w.alloc (.cells vs.toArray e)) := by
  refine ⟨H.alloc ⟨k, cs⟩ hk vs.toArray e (0, 0) ⟨Nat.le_refl _, fun i _ => by simp⟩ (by simp [All2.length ha]) (fun e' sz he => ⟨(hrow e' sz he).1, rfl, (hrow e' sz he).2⟩) fun i x hx => ?_, Ext.alloc H ⟨k, cs⟩ hk _⟩
  obtain ⟨v, hv, hr⟩ := All2.get ha i x hx
  exact ⟨v, by simpa using hv, hr⟩

theorem new_ptr {k : BK} {cs : List SV} {ad : Addr} {w' : World} : TVR (upd σ h.length ad) (h ++ [⟨k, cs⟩]) w' [.sc (.ptr h.length 0 cs.length)] (.pointer (some ad)) :=
  ⟨⟨k, cs⟩, by simp, Nat.le_refl _, rfl, fun _ => by rw [upd_same]; rfl⟩

theorem g_alloc (H : HR base σ h w) {t : TypeId} {z : List SV} {zv : Value} (hz : (P.info? t).bind (·.zero) = some zv) (hk : scsOk z zv.cells.toList = true) :
    Good P base σ h w (Instr.alloc t true (.tuple #[])) [.sc (.ptr h.length 0 z.length)] (h ++ [⟨.var, z⟩]) := by
  have N := new_R H .var (by simp) (scsOk_R (σ := σ) (h := h) (w := w) hk) t (fun _ _ he => by cases he)
  cases hi : P.info? t with
  | none => simp [hi] at hz
  | some i =>
    have hz' : i.zero = some zv := by simpa [hi] using hz
    rw [Array.toArray_toList] at N
    exact ⟨_, _, .pointer (some ⟨w.heap.size, 0, none⟩), by simp [Instr.alloc, zeroValue, typeInfo, hi, hz', newVar, newRow], N.1, N.2, new_ptr⟩

theorem g_box (H : HR base σ h w) {t : TypeId} {y : AV} {cs : List SV} (hy : y.cells? = some cs) {v : Value} (hv : AVR σ h w y v) :
    Good P base σ h w (Instr.box t v) [.sc (.ptr h.length 0 cs.length)] (h ++ [⟨.var, cs⟩]) := by
  obtain ⟨vs, hvs, ha⟩ := cells_R hy hv
  have N := new_R H .var (by simp) ha t (fun _ _ he => by cases he)
  exact ⟨_, _, .pointer (some ⟨w.heap.size, 0, none⟩), by simp [Instr.box, newVar, newRow, hvs], N.1, N.2, new_ptr⟩

-- addresses
theorem g_fld (H : HR base σ h w) {s f off : Nat} {fs : Array Field} (hu : P.underlying s = some (.struct fs)) {fd : Field} (hf : fs[f]? = some fd) (ho : fd.offset = off) {m : Nat} (hm : szTy P fd.type = some m) (hm0 : m ≠ 0)
    {b o n : Nat} {v : Value} (hv : TVR σ h w [.sc (.ptr b o n)] v) (hfr : freshB h b n = true) :
    Good P base σ h w (Instr.fieldAt s v f) [.sc (.ptr b (o + off) n)] h := by
  have hp := fresh_ptr (w := w) hv hfr
  subst hp
  refine Good.same H (v := .pointer (some (((σ b).add o).add off))) ?_ ?_
  · simp [Instr.fieldAt, run_underlying hu, hf, Instr.sureAddr, fieldPlace, run_sizeTy hm, hm0, ho]
  · obtain ⟨B, hB, h1, h2, h3⟩ := hv
    exact ⟨B, hB, h1, rfl, fun _ => by rw [add_add]⟩

theorem g_ixa (H : HR base σ h w) {t len sz e : Nat} (hu : P.underlying t = some (.array len e)) (hz : szTy P e = some sz) {b o n : Nat} {v : Value} (hv : TVR σ h w [.sc (.ptr b o n)] v) (hfr : freshB h b n = true)
    {k : IntKind} {j : Nat} (hj : j < len) : Good P base σ h w (Instr.indexAt t v (.int k j)) [.sc (.ptr b (o + j * sz) n)] h := by
  have hp := fresh_ptr (w := w) hv hfr
  subst hp
  refine Good.same H (v := .pointer (some (((σ b).add o).add (j * sz)))) ?_ ?_
  · simp [Instr.indexAt, asIntOf, run_underlying hu, Instr.sureAddr, run_sizeTy hz, hj]
  · obtain ⟨B, hB, h1, h2, h3⟩ := hv
    exact ⟨B, hB, h1, rfl, fun _ => by rw [add_add]⟩

theorem g_ixs (H : HR base σ h w) {t sz e : Nat} (hu : P.underlying t = some (.slice e)) (hz : szTy P e = some sz) {b o n c : Nat} {v : Value} (hv : TVR σ h w [.sc (.sl b o n c)] v) (hfr : freshB h b (o + c) = true)
    {k : IntKind} {j : Nat} (hj : j < n) : Good P base σ h w (Instr.indexAt t v (.int k j)) [.sc (.ptr b (o + j * sz) (o + c))] h := by
  obtain ⟨B, hB, he⟩ := freshB_spec hfr
  obtain ⟨ad, cap, rfl, h2, h3, h4⟩ := fresh_sl (w := w) hv hB he
  have had : ad = (σ b).add o := by
    rcases h3 with h3 | h3
    · exact h3
    · omega
  subst had
  refine Good.same H (v := .pointer (some (((σ b).add o).add (j * sz)))) ?_ ⟨B, hB, by omega, rfl, fun _ => by rw [add_add]⟩
  simp [Instr.indexAt, asIntOf, run_underlying hu, Instr.sureAddr, run_sizeTy hz, hj]

theorem g_ixstr (H : HR base σ h w) {t : TypeId} (hu : P.underlying t = some .string) {l : List UInt8} {k : IntKind} {j : Nat} {c : UInt8} (hc : l[j]? = some c) :
    Good P base σ h w (Instr.index t (.string ⟨l.toArray⟩) (.int k j)) [.sc (.int .u8 c.toNat)] h := by
  refine Good.same H (v := .int .u8 c.toNat) ?_ rfl
  have hj := lt_of_get hc
  have hg : (⟨l.toArray⟩ : ByteArray)[j]? = some c := by
    rw [getElem?_pos (⟨l.toArray⟩ : ByteArray) j (by rw [size_mk]; exact hj)]
    have := List.getElem?_eq_getElem hj
    rw [hc] at this
    injection this with this
    rw [this]
    rfl
  simp [Instr.index, asIntOf, run_underlying hu, hg]

theorem extract_toArray {α : Type} (l : List α) (a b : Nat) : l.toArray.extract a b = ((l.drop a).take (b - a)).toArray := by
  apply Array.ext'
  simp [List.extract]

theorem part_R (H : HR base σ h w) {e : TypeId} {ag : Bool} {sz off : Nat} (ht : aggTy P e = some ag) (hz : szTy P e = some sz) {l : List SV} {cs : List Value} (ha : All2 (SVR σ h w) l cs)
    (hs : (if ag then some ([AV.agg ((l.drop off).take sz)], h) else match l[off]? with | some v => some ([AV.sc v], h) | none => none) = some (tv, h')) :
    h' = h ∧ Good P base σ h w (part e cs.toArray off) tv h := by
  split at hs
  · rename_i hag
    injection hs with hs
    injection hs with e1 e2
    subst e1 e2 hag
    refine ⟨rfl, Good.same H (v := .agg ((cs.drop off).take sz).toArray) ?_ ⟨_, rfl, (ha.drop off).take sz⟩⟩
    simp only [part, Sem.run_bind, run_isAgg ht, Result.andThen_ok, if_true, run_sizeTy hz, Sem.run_pure, extract_toArray]
    rw [Nat.add_sub_cancel_left]
  · rename_i hag
    have hag' : ag = false := by simpa using hag
    subst hag'
    split at hs
    · rename_i x hx
      injection hs with hs
      injection hs with e1 e2
      subst e1 e2
      obtain ⟨v, hv, hr⟩ := All2.get ha off x hx
      exact ⟨rfl, Good.same H (v := v) (by simp [part, run_isAgg ht, hv]) hr⟩
    · contradiction

theorem g_ixv (H : HR base σ h w) {t len sz e : Nat} {ag : Bool} (hu : P.underlying t = some (.array len e)) (ht : aggTy P e = some ag) (hz : szTy P e = some sz) {l : List SV} {cs : List Value} (ha : All2 (SVR σ h w) l cs)
    {k : IntKind} {j : Nat} (hj : j < len) (hs : (if ag then some ([AV.agg ((l.drop (j * sz)).take sz)], h) else match l[j * sz]? with | some v => some ([AV.sc v], h) | none => none) = some (tv, h')) :
    h' = h ∧ Good P base σ h w (Instr.index t (.agg cs.toArray) (.int k j)) tv h := by
  obtain ⟨e1, σ', w', v, h1, h2, h3, h4⟩ := part_R H ht hz ha hs
  refine ⟨e1, σ', w', v, ?_, h2, h3, h4⟩
  simp [Instr.index, asIntOf, run_underlying hu, run_sizeTy hz, hj, h1]

theorem g_part (H : HR base σ h w) {t f off sz : Nat} {ag : Bool} {fs : Array Field} (hu : P.underlying t = some (.struct fs)) {fd : Field} (hf : fs[f]? = some fd) (ho : fd.offset = off) (ht : aggTy P fd.type = some ag) (hz : szTy P fd.type = some sz)
    {l : List SV} {cs : List Value} (ha : All2 (SVR σ h w) l cs) (hs : (if ag then some ([AV.agg ((l.drop off).take sz)], h) else match l[off]? with | some v => some ([AV.sc v], h) | none => none) = some (tv, h')) :
    h' = h ∧ Good P base σ h w (Instr.field t (.agg cs.toArray) f) tv h := by
  obtain ⟨e1, σ', w', v, h1, h2, h3, h4⟩ := part_R H ht hz ha hs
  refine ⟨e1, σ', w', v, ?_, h2, h3, h4⟩
  simp [Instr.field, run_underlying hu, hf, asAgg, ho, h1]
end
end Go.Abs
