/- The abstract machine, part 8: what is built, cuts, conversions; the table of operations; each computes what Go's does. -/
import Derived.Test.YtdodhmidhcpnnaaX7
set_option linter.unusedVariables false
set_option linter.unusedSimpArgs false
namespace Go.Abs

/-- where a part of a struct or an array lies: its place and size -/
def placeTy (P : Program) (t : TypeId) (i : Nat) : Option (Nat × Nat) :=
  match P.underlying t with
  | some (.array _ e) => (szTy P e).map fun s => (i * s, s)
  | some (.struct fs) => match fs[i]? with | some f => (szTy P f.type).map fun s => (f.offset, s) | none => none
  | _ => none

def sizesOk (P : Program) (t : TypeId) : Bool :=
  match P.underlying t with
  | some (.array _ e) => (P.info? e).isSome
  | some (.struct fs) => fs.toList.all fun f => (P.info? f.type).isSome
  | _ => false

def zeroOk (P : Program) (t : TypeId) (z : List SV) : Bool :=
  match (P.info? t).bind (·.zero) with
  | some v => scsOk z v.cells.toList
  | none => false

def buildOk (P : Program) (t : TypeId) : List (Nat × Nat × Opd) → List (Nat × Operand) → Bool
  | [], [] => true
  | (o, s, x) :: r, (i, y) :: r' => placeTy P t i == some (o, s) && okO x y && buildOk P t r r'
  | _, _ => false

def rowOk (sz : Nat) : List (Nat × Opd) → List (Nat × Operand) → Bool
  | [], [] => true
  | (i, x) :: r, (j, y) :: r' => i == j && okO x y && rowOk sz r r'
  | _, _ => false

def okOs : List Opd → List Operand → Bool
  | [], [] => true
  | x :: l, y :: m => okO x y && okOs l m
  | _, _ => false

def okOo : Option Opd → Option Operand → Bool
  | none, none => true
  | some x, some y => okO x y
  | _, _ => false

section
variable {P : Program} {base : Nat} {σ : Nat → Addr} {h h' : Heap} {w : World} {tv : TV}

theorem foldl_zip (off : Nat) : ∀ (vs : List Value) (k : Nat) (arr : Array Value), ((vs.zipIdx k).foldl (fun cs (c, j) => cs.setIfInBounds (off + j) c) arr).toList = setCells arr.toList (off + k) vs
  | [], k, arr => rfl
  | v :: r, k, arr => by
    simp only [List.zipIdx_cons, List.foldl_cons, setCells]
    rw [foldl_zip off r (k + 1)]
    simp [Nat.add_assoc]

theorem All2_setCells {cs : List SV} {vs : List Value} {l : List SV} {m : List Value} {o : Nat} (ha : All2 (SVR σ h w) cs vs) (hl : All2 (SVR σ h w) l m) : All2 (SVR σ h w) (setCells l o cs) (setCells m o vs) :=
  All2.of_get (by rw [setCells_length, setCells_length]; exact All2.length hl) fun i a b hx hy => by
    obtain ⟨v, hv, hr⟩ := setCells_R (R := SVR σ h w) l m o ha (fun i x hx => All2.get hl i x hx) i a hx
    rw [hv] at hy
    injection hy with hy
    exact hy ▸ hr

theorem fill_R {e : Env} {ρ : Operand → Value} (hρ : ∀ x y, okO x y = true → TVR σ h w (x.ev e) (ρ y)) {place : Nat → Option (Nat × Nat)} : ∀ (ps : List (Nat × Nat × Opd)) (qs : List (Nat × Operand)) (cs cs' : List SV) (arr : Array Value),
    All2 (fun (p : Nat × Nat × Opd) (q : Nat × Operand) => place q.1 = some (p.1, p.2.1) ∧ okO p.2.2 q.2 = true) ps qs → fillA ps e cs = some cs' → All2 (SVR σ h w) cs arr.toList →
    ∃ arr' : Array Value, Instr.fill place arr (qs.map fun q => (q.1, ρ q.2)) = some arr' ∧ All2 (SVR σ h w) cs' arr'.toList
  | [], [], cs, cs', arr, _, hf, ha => by
    simp only [fillA] at hf
    injection hf with hf
    subst hf
    exact ⟨arr, rfl, ha⟩
  | (o, s, x) :: ps, (i, y) :: qs, cs, cs', arr, hp, hf, ha => by
    obtain ⟨⟨hp1, hp2⟩, hps⟩ := hp
    simp only [fillA] at hf
    split at hf
    · rename_i v hv
      split at hf
      · rename_i vs hvs
        split at hf
        · rename_i hc
          have hxy := hρ x y hp2
          rw [hv] at hxy
          obtain ⟨us, hus, hra⟩ := cells_R hvs hxy
          have hl := All2.length hra
          have hal := All2.length ha
          have ha' := All2_setCells (o := o) hra ha
          obtain ⟨arr', h1, h2⟩ := fill_R hρ ps qs (setCells cs o vs) cs' ((us.zipIdx 0).foldl (fun cs (c, j) => cs.setIfInBounds (o + j) c) arr) hps hf (by rw [foldl_zip]; simpa using ha')
          refine ⟨arr', ?_, h2⟩
          simp only [List.map_cons, Instr.fill, hp1]
          have hsz : (ρ y).cells.size = s := by rw [hus]; simp; omega
          have h1' : ¬ ((decide ((ρ y).cells.size ≠ s) || decide (o + (ρ y).cells.size > arr.size)) = true) := by
            rw [hsz]; have : arr.size = arr.toList.length := by simp
            simp; omega
          rw [if_neg h1', hus]
          simpa using h1
        · contradiction
      · contradiction
    · contradiction
  | [], _ :: _, _, _, _, hp, _, _ => hp.elim
  | _ :: _, [], _, _, _, hp, _, _ => hp.elim

theorem buildOk_spec {t : TypeId} : ∀ {ps : List (Nat × Nat × Opd)} {qs : List (Nat × Operand)}, buildOk P t ps qs = true → All2 (fun (p : Nat × Nat × Opd) (q : Nat × Operand) => placeTy P t q.1 = some (p.1, p.2.1) ∧ okO p.2.2 q.2 = true) ps qs
  | [], [], _ => trivial
  | (o, s, x) :: ps, (i, y) :: qs, hk => by
    simp only [buildOk, Bool.and_eq_true, beq_iff_eq] at hk
    exact ⟨⟨hk.1.1, hk.1.2⟩, buildOk_spec hk.2⟩
  | [], _ :: _, hk => by simp [buildOk] at hk
  | _ :: _, [], hk => by simp [buildOk] at hk

theorem rowOk_spec {sz : Nat} : ∀ {ps : List (Nat × Opd)} {qs : List (Nat × Operand)}, rowOk sz ps qs = true →
    All2 (fun (p : Nat × Nat × Opd) (q : Nat × Operand) => (fun i => some (i * sz, sz)) q.1 = some (p.1, p.2.1) ∧ okO p.2.2 q.2 = true) (ps.map fun p => (p.1 * sz, sz, p.2)) qs
  | [], [], _ => trivial
  | (i, x) :: ps, (j, y) :: qs, hk => by
    simp only [rowOk, Bool.and_eq_true, beq_iff_eq] at hk
    exact ⟨⟨by simp [hk.1.1], hk.1.2⟩, rowOk_spec hk.2⟩
  | [], _ :: _, hk => by simp [rowOk] at hk
  | _ :: _, [], hk => by simp [rowOk] at hk

theorem mapM_places : ∀ (fs : List Field), (fs.all fun f => (P.info? f.type).isSome) = true → ∃ pl : List (Nat × Nat), fs.mapM (fun f => (P.info? f.type).map fun i => (f.offset, i.size)) = some pl ∧ ∀ i : Nat, pl[i]? = match (fs[i]? : Option Field) with | some f => (szTy P f.type).map fun s => (f.offset, s) | none => none
  | [], _ => ⟨[], rfl, fun i => by simp⟩
  | f :: fs, hk => by
    simp only [List.all_cons, Bool.and_eq_true] at hk
    obtain ⟨pl, h1, h2⟩ := mapM_places fs hk.2
    cases hi : P.info? f.type with
    | none => simp [hi] at hk
    | some i =>
      refine ⟨(f.offset, i.size) :: pl, by simp [List.mapM_cons, hi, h1], fun j => ?_⟩
      cases j with
      | zero => simp [szTy, hi]
      | succ j => simpa using h2 j

theorem g_build (H : HR base σ h w) {e : Env} {ρ : Operand → Value} (hρ : ∀ x y, okO x y = true → TVR σ h w (x.ev e) (ρ y)) {t : TypeId} {z : List SV} {ps : List (Nat × Nat × Opd)} {qs : Array (Nat × Operand)}
    (hz : zeroOk P t z = true) (hso : sizesOk P t = true) (hb : buildOk P t ps qs.toList = true) {cs : List SV} (hf : fillA ps e z = some cs) :
    Good P base σ h w (Instr.build t (qs.map fun (i, x) => (i, ρ x))) [.agg cs] h := by
  unfold zeroOk at hz
  cases hi : P.info? t with
  | none => simp [hi] at hz
  | some it =>
    cases hzz : it.zero with
    | none => simp [hi, hzz] at hz
    | some zv =>
      simp only [hi, Option.bind_some, hzz] at hz
      have hza : All2 (SVR σ h w) z zv.cells.toList := scsOk_R hz
      have hbo := buildOk_spec hb
      obtain ⟨arr, h1, h2⟩ := fill_R (place := placeTy P t) hρ ps qs.toList z cs zv.cells hbo hf hza
      refine Good.same H (v := .agg arr) ?_ ⟨arr.toList, by simp, h2⟩
      refine run_build (P := P) w t _ arr ?_
      have hqs : (qs.map fun (i, x) => (i, ρ x)).toList = qs.toList.map fun q => (q.1, ρ q.2) := by simp
      rw [hqs]
      unfold Program.built
      cases hu : P.underlying t with
      | none => simp [sizesOk, hu] at hso
      | some d =>
        cases d <;> simp only [sizesOk, hu, Bool.false_eq_true] at hso
        case array n el =>
          cases hie : P.info? el with
          | none => simp [hie] at hso
          | some ie =>
            simp only [hi, hzz, hie]
            have : placeTy P t = fun i => some (i * ie.size, ie.size) := by funext i; simp [placeTy, hu, szTy, hie]
            rw [← this]
            exact h1
        case struct fs =>
          obtain ⟨pl, e1, e2⟩ := mapM_places (P := P) fs.toList hso
          simp only [hi, hzz, e1]
          have : placeTy P t = fun i => pl.toArray[i]? := by
            funext i
            have := e2 i
            simp only [Array.getElem?_toList] at this
            simp [placeTy, hu, this]
          rw [← this]
          exact h1

theorem rep_get (z : List SV) (hz : 0 < z.length) : ∀ (n i : Nat), i < n * z.length → (rep z n)[i]? = z[i % z.length]?
  | 0, i, hi => by simp at hi
  | n + 1, i, hi => by
    simp only [rep]
    by_cases hlt : i < z.length
    · rw [List.getElem?_append_left hlt, Nat.mod_eq_of_lt hlt]
    · have e : i % z.length = (i - z.length) % z.length := Nat.mod_eq_sub_mod (by omega)
      have hi' : i < n * z.length + z.length := by rw [Nat.add_mul, Nat.one_mul] at hi; exact hi
      rw [List.getElem?_append_right (by omega), rep_get z hz n (i - z.length) (by omega), e]

theorem rep_length (z : List SV) : ∀ n, (rep z n).length = n * z.length
  | 0 => by simp [rep]
  | n + 1 => by simp [rep, rep_length z n, Nat.add_mul]; omega

theorem rep_R {z : List SV} {zv : Array Value} (ha : All2 (SVR σ h w) z zv.toList) (n : Nat) : All2 (SVR σ h w) (rep z n) ((Array.range (n * zv.size)).map (zv[· % zv.size]!)).toList := by
  have hl : z.length = zv.size := by simpa using All2.length ha
  refine All2.of_get (by simp [rep_length, hl]) fun i a b hx hy => ?_
  have hi : i < n * zv.size := by have := lt_of_get hy; simpa using this
  have h0 : 0 < zv.size := by
    rcases Nat.eq_zero_or_pos zv.size with h0 | h0
    · rw [h0] at hi; simp at hi
    · exact h0
  rw [rep_get z (by omega) n i (by rw [hl]; exact hi), hl] at hx
  obtain ⟨v, hv, hr⟩ := All2.get ha _ _ hx
  have : b = v := by
    have hm : i % zv.size < zv.size := Nat.mod_lt _ h0
    simp only [Array.toList_map, List.getElem?_map, Array.getElem?_toList] at hy
    rw [Array.getElem?_eq_getElem (by simpa using hi)] at hy
    simp only [Array.getElem_range, Option.map_some] at hy
    injection hy with hy
    rw [← hy]
    rw [Array.getElem?_toList, Array.getElem?_eq_getElem hm] at hv
    injection hv with hv
    rw [← hv, getElem!_pos zv _ hm]
  exact this ▸ hr

/-- the cells of a row written out -/
theorem run_bslice {e : Env} {ρ : Operand → Value} (hρ : ∀ x y, okO x y = true → TVR σ h w (x.ev e) (ρ y)) {t el sz n : Nat} {i : TypeInfo} {zv : Value} (ht : P.underlying t = some (.slice el)) (hi : P.info? el = some i) (hzv : i.zero = some zv) (hsz : i.size = sz)
    {z : List SV} (hz : scsOk z zv.cells.toList = true) (hzl : z.length = sz) (hn : n * sz ≤ 16777216) {ps : List (Nat × Opd)} {qs : Array (Nat × Operand)} (hb : rowOk sz ps qs.toList = true) {cs : List SV} (hf : fillA (ps.map fun p => (p.1 * sz, sz, p.2)) e (rep z n) = some cs) :
    ∃ arr : Array Value, (Instr.buildSlice t n (qs.map fun (i, x) => (i, ρ x))).run P w = .ok (.slice (some ⟨w.heap.size, 0, none⟩) n n) (w.alloc (.cells arr el)) ∧ All2 (SVR σ h w) cs arr.toList := by
  have hza : All2 (SVR σ h w) z zv.cells.toList := scsOk_R hz
  have hzs : zv.cells.size = sz := by have : z.length = zv.cells.size := by simpa using All2.length hza
                                      omega
  have hra := rep_R hza n
  obtain ⟨arr, h1, h2⟩ := fill_R (place := fun i => some (i * sz, sz)) hρ _ qs.toList (rep z n) cs ((Array.range (n * zv.cells.size)).map (zv.cells[· % zv.cells.size]!)) (rowOk_spec hb) hf hra
  refine ⟨arr, ?_, h2⟩
  have hqs : (qs.map fun (i, x) => (i, ρ x)).toList = qs.toList.map fun q => (q.1, ρ q.2) := by simp
  have hn' : ¬ (n * sz > 2 ^ 24) := by omega
  rw [hzs] at h1
  by_cases h0 : n * sz = 0
  · have e0 : ∀ f : Nat → Value, (Array.range (n * sz)).map f = #[] := fun f => by rw [h0]; apply Array.ext'; simp
    rw [e0] at h1
    simp only [Instr.buildSlice, Sem.run_bind, run_underlying ht, Result.andThen_ok, sizeOf, typeInfo, run_program, hi, Sem.run_pure, hsz, if_neg hn', if_pos h0, hqs, e0, h1, newRow, run_newObj]
    rfl
  · simp only [Instr.buildSlice, Sem.run_bind, run_underlying ht, Result.andThen_ok, sizeOf, typeInfo, run_program, hi, Sem.run_pure, hsz, if_neg hn', if_neg h0, hqs, zeroValue, hzv, hzs, h1, newRow, run_newObj]
    rfl

theorem g_bimm (H : HR base σ h w) {e : Env} {ρ : Operand → Value} (hρ : ∀ x y, okO x y = true → TVR σ h w (x.ev e) (ρ y)) {t el sz n : Nat} {i : TypeInfo} {zv : Value} (ht : P.underlying t = some (.slice el)) (hi : P.info? el = some i) (hzv : i.zero = some zv) (hsz : i.size = sz)
    {z : List SV} (hz : scsOk z zv.cells.toList = true) (hzl : z.length = sz) (hn : n * sz ≤ 16777216) {ps : List (Nat × Opd)} {qs : Array (Nat × Operand)} (hb : rowOk sz ps qs.toList = true) {cs : List SV} (hf : fillA (ps.map fun p => (p.1 * sz, sz, p.2)) e (rep z n) = some cs) :
    Good P base σ h w (Instr.buildSlice t n (qs.map fun (i, x) => (i, ρ x))) [.imm n cs] h := by
  obtain ⟨arr, h1, h2⟩ := run_bslice hρ ht hi hzv hsz hz hzl hn hb hf
  refine ⟨σ, _, _, h1, H.junk _, Ext.junk H _, w.heap.size, arr, el, rfl, heap_alloc_new w _, forall2_imp (fun _ _ => SVR.ext H (Ext.junk H _)) h2, fun j B hB hk he => ?_⟩
  have := H.own_block hB hk
  omega

theorem g_brow (H : HR base σ h w) {e : Env} {ρ : Operand → Value} (hρ : ∀ x y, okO x y = true → TVR σ h w (x.ev e) (ρ y)) {t el sz n : Nat} {i : TypeInfo} {zv : Value} (ht : P.underlying t = some (.slice el)) (hi : P.info? el = some i) (hzv : i.zero = some zv) (hsz : i.size = sz)
    {z : List SV} (hz : scsOk z zv.cells.toList = true) (hzl : z.length = sz) (hn : n * sz ≤ 16777216) (h0 : 0 < sz) {ps : List (Nat × Opd)} {qs : Array (Nat × Operand)} (hb : rowOk sz ps qs.toList = true) {cs : List SV} (hf : fillA (ps.map fun p => (p.1 * sz, sz, p.2)) e (rep z n) = some cs) (hcl : cs.length = n * sz) :
    Good P base σ h w (Instr.buildSlice t n (qs.map fun (i, x) => (i, ρ x))) [.sc (.sl h.length 0 n (n * sz))] (h ++ [⟨.row el sz, cs⟩]) := by
  obtain ⟨arr, h1, h2⟩ := run_bslice hρ ht hi hzv hsz hz hzl hn hb hf
  have N := new_R H (.row el sz) (by simp) h2 el (fun e' s' he => by injection he with q1 q2; subst q1 q2; exact ⟨rfl, h0⟩)
  rw [Array.toArray_toList] at N
  have hsl : arr.size = n * sz := by have := All2.length h2; rw [hcl] at this; simpa using this.symm
  refine ⟨_, _, _, h1, N.1, N.2, ⟨⟨.row el sz, cs⟩, by simp, by simp [hcl], rfl, fun _ => ⟨_, _, rfl, Nat.le_refl _, .inl (by rw [upd_same]; exact (cell_add0 _ _).symm), ?_⟩⟩⟩
  rw [upd_same]
  have hrs : rowSize (w.alloc (.cells arr el)) w.heap.size = n * sz := by
    unfold rowSize
    rw [heap_alloc_new]
    exact hsl
  exact ⟨by have := Nat.le_mul_of_pos_right n h0; simp only [maxLen]; omega, by rw [hrs]; omega, fun _ => by rw [hrs]⟩

theorem g_brov (H : HR base σ h w) {e : Env} {ρ : Operand → Value} (hρ : ∀ x y, okO x y = true → TVR σ h w (x.ev e) (ρ y)) {t el sz n : Nat} {i : TypeInfo} {zv : Value} (ht : P.underlying t = some (.slice el)) (hi : P.info? el = some i) (hzv : i.zero = some zv) (hsz : i.size = sz)
    {z : List SV} (hz : scsOk z zv.cells.toList = true) (hzl : z.length = sz) (hn : n * sz ≤ 16777216) (h0 : 0 < sz) {ps : List (Nat × Opd)} {qs : Array (Nat × Operand)} (hb : rowOk sz ps qs.toList = true) {cs : List SV} (hf : fillA (ps.map fun p => (p.1 * sz, sz, p.2)) e (rep z n) = some cs) (hcl : cs.length = n * sz) :
    Good P base σ h w (Instr.buildSlice t n (qs.map fun (i, x) => (i, ρ x))) [.sc (.sl h.length 0 n (n * sz))] (h ++ [⟨.var, cs⟩]) := by
  obtain ⟨arr, h1, h2⟩ := run_bslice hρ ht hi hzv hsz hz hzl hn hb hf
  have N := new_R H .var (by simp) h2 el (fun _ _ he => by cases he)
  rw [Array.toArray_toList] at N
  have hsl : arr.size = n * sz := by have := All2.length h2; rw [hcl] at this; simpa using this.symm
  refine ⟨_, _, _, h1, N.1, N.2, ⟨⟨.var, cs⟩, by simp, by simp [hcl], rfl, fun _ => ⟨_, _, rfl, Nat.le_refl _, .inl (by rw [upd_same]; exact (cell_add0 _ _).symm), ?_⟩⟩⟩
  trivial

theorem g_mkrow (H : HR base σ h w) {t el sz by_ n : Nat} {i : TypeInfo} {zv : Value} (ht : P.underlying t = some (.slice el)) (hi : P.info? el = some i) (hzv : i.zero = some zv) (hsz : i.size = sz) (hby : i.bytes = by_)
    {z : List SV} (hz : scsOk z zv.cells.toList = true) (hzl : z.length = sz) (h0 : 0 < sz) (hl : n * by_ ≤ lim) (hl' : n ≤ lim) (kl kc : IntKind) :
    Good P base σ h w (Instr.makeSlice t (.int kl n) (.int kc n)) [.sc (.sl h.length 0 n (n * sz))] (h ++ [⟨.row el sz, rep z n⟩]) := by
  have hza : All2 (SVR σ h w) z zv.cells.toList := scsOk_R hz
  have hzs : zv.cells.size = sz := by have : z.length = zv.cells.size := by simpa using All2.length hza
                                      omega
  have hra := rep_R hza n
  rw [hzs] at hra
  have hb2 : (i.bytes : Int) * (n : Int) ≤ 281474976710656 := by
    rw [hby]
    have : n * by_ ≤ 140737488355328 := hl
    have e : ((by_ : Int) * (n : Int)) = ((n * by_ : Nat) : Int) := by rw [Nat.mul_comm]; simp
    rw [e]
    omega
  have hr := run_make (P := P) w t el i zv ht hi hzv kl kc (n : Int) (n : Int) (by omega) (by omega) hb2 (by have : n ≤ 140737488355328 := hl'; omega)
  rw [hsz] at hr
  simp only [Int.toNat_natCast] at hr
  have N := new_R H (.row el sz) (by simp) hra el (fun e' s' he => by injection he with q1 q2; subst q1 q2; exact ⟨rfl, h0⟩)
  rw [Array.toArray_toList] at N
  have hm : madeCells zv.cells (n * sz) = (Array.range (n * sz)).map (zv.cells[· % sz]!) := by unfold madeCells; rw [hzs]
  rw [hm] at hr
  refine ⟨_, _, _, hr, N.1, N.2, ⟨⟨.row el sz, rep z n⟩, by simp, by simp [rep_length, hzl], rfl, fun _ => ⟨_, _, rfl, Nat.le_refl _, .inl (by rw [upd_same]; exact (cell_add0 _ _).symm), ?_⟩⟩⟩
  rw [upd_same]
  have hrs : rowSize (w.alloc (.cells ((Array.range (n * sz)).map (zv.cells[· % sz]!)) el)) w.heap.size = n * sz := by
    unfold rowSize
    rw [heap_alloc_new]
    simp
  have hl2 : n ≤ 140737488355328 := hl'
  exact ⟨by simp only [maxLen]; omega, by rw [hrs]; omega, fun _ => by rw [hrs]⟩

-- cuts
theorem run_bounds (sl : Bool) {n cap l r : Nat} {lo hi : Option Value} (hlo : lo = none ∧ l = 0 ∨ ∃ k, lo = some (.int k (l : Int))) (hhi : hi = none ∧ r = n ∨ ∃ k, hi = some (.int k (r : Int))) (hlr : l ≤ r) (hrc : r ≤ cap) :
    (Instr.sliceBounds sl n cap lo hi none).run P w = .ok (l, r, cap) w := by
  rcases hlo with ⟨rfl, rfl⟩ | ⟨k, rfl⟩ <;> rcases hhi with ⟨rfl, rfl⟩ | ⟨k', rfl⟩ <;>
    simp [Instr.sliceBounds, Instr.sliceBound, asIntOf, hlr, hrc]

theorem g_slc (H : HR base σ h w) {t el sz : Nat} (ht : P.underlying t = some (.slice el)) (hz : szTy P el = some sz) (h0 : 0 < sz) {b o n c l r : Nat} {v : Value} (hv : TVR σ h w [.sc (.sl b o n c)] v) {B : Blk} (hB : h[b]? = some B) (hf : o + c = B.c.length) (hk : B.k.fits sz = true)
    (hlr : l ≤ r) (hrn : r ≤ n) (hnc : n * sz ≤ c) {lo hi : Option Value} (hlo : lo = none ∧ l = 0 ∨ ∃ k, lo = some (.int k (l : Int))) (hhi : hi = none ∧ r = n ∨ ∃ k, hi = some (.int k (r : Int))) :
    Good P base σ h w (Instr.sliceAt t v lo hi none) [.sc (.sl b (o + l * sz) (r - l) (c - l * sz))] h := by
  obtain ⟨ad, cap, rfl, q2, q3, q4⟩ := fresh_sl (w := w) hv hB hf
  have hb := run_bounds (P := P) (w := w) true hlo hhi hlr (by omega : r ≤ cap)
  have hls : l * sz ≤ n * sz := Nat.mul_le_mul_right _ (by omega)
  refine Good.same H (v := .slice (some (if cap = l then ad else ad.add (l * sz))) (r - l) (cap - l)) ?_ ⟨B, hB, by omega, rfl, fun _ => ⟨_, _, rfl, by omega, ?_, ?_⟩⟩
  · simp only [Instr.sliceAt, Sem.run_bind, run_underlying ht, Result.andThen_ok, Instr.slice, hb, run_sizeTy hz, Sem.run_pure]
    split <;> simp_all
  · by_cases hc : cap = l
    · rw [if_pos hc]
      by_cases hl0 : l = 0
      · subst hl0
        rcases q3 with q3 | q3
        · exact .inl (by simpa using q3)
        · exact .inr ⟨by omega, by omega⟩
      · exact .inr ⟨by omega, by have := Nat.mul_pos (Nat.pos_of_ne_zero hl0) h0; omega⟩
    · rw [if_neg hc]
      rcases q3 with q3 | q3
      · exact .inl (by rw [q3, add_add])
      · exfalso; omega
  · unfold rowFit at q4 ⊢
    split
    · rename_i e s hk'
      rw [hk'] at q4 hk
      have hs : s = sz := by simpa [BK.fits] using hk
      subst hs
      obtain ⟨p1, p2, p3⟩ := q4
      have hsub : (cap - l) * s = cap * s - l * s := Nat.sub_mul _ _ _
      have hcl : l * s ≤ cap * s := Nat.mul_le_mul_right _ (by omega)
      refine ⟨by omega, by omega, fun e0 => ?_⟩
      have e1 : o = 0 := by omega
      have := p3 e1
      omega
    · trivial

theorem g_slcnil (H : HR base σ h w) {t el sz : Nat} (ht : P.underlying t = some (.slice el)) (hz : szTy P el = some sz) {lo hi : Option Value} (hlo : lo = none ∧ (0 : Nat) = 0 ∨ ∃ k, lo = some (.int k ((0 : Nat) : Int))) (hhi : hi = none ∧ (0 : Nat) = 0 ∨ ∃ k, hi = some (.int k ((0 : Nat) : Int))) :
    Good P base σ h w (Instr.sliceAt t (.slice none 0 0) lo hi none) [.sc .nils] h := by
  have hb := run_bounds (P := P) (w := w) true hlo hhi (Nat.le_refl 0) (Nat.le_refl 0)
  refine Good.same H (v := .slice none 0 0) ?_ rfl
  simp only [Instr.sliceAt, Sem.run_bind, run_underlying ht, Result.andThen_ok, Instr.slice, hb, run_sizeTy hz, Sem.run_pure]
  simp

theorem extract_mk' (s : List UInt8) (l r : Nat) : (⟨s.toArray⟩ : ByteArray).extract l r = ⟨((s.drop l).take (r - l)).toArray⟩ := by
  apply ByteArray.ext
  apply Array.ext'
  rw [Lib.extract_data]

theorem g_slstr (H : HR base σ h w) {t : TypeId} (ht : P.underlying t = some .string) {s : List UInt8} {l r : Nat} (hlr : l ≤ r) (hrn : r ≤ s.length) {lo hi : Option Value} (hlo : lo = none ∧ l = 0 ∨ ∃ k, lo = some (.int k (l : Int))) (hhi : hi = none ∧ r = s.length ∨ ∃ k, hi = some (.int k (r : Int))) :
    Good P base σ h w (Instr.sliceAt t (.string ⟨s.toArray⟩) lo hi none) [.sc (.str ((s.drop l).take (r - l)))] h := by
  have hb := run_bounds (P := P) (w := w) false (n := s.length) (cap := s.length) hlo hhi hlr hrn
  refine Good.same H (v := .string ⟨((s.drop l).take (r - l)).toArray⟩) ?_ rfl
  simp only [Instr.sliceAt, Sem.run_bind, run_underlying ht, Result.andThen_ok, Instr.slice, size_mk, Option.isSome_none, Bool.false_eq_true, if_false, hb, Sem.run_pure, extract_mk']

-- conversions
theorem foldl_push (ns : List UInt8) : ∀ (acc : ByteArray), (ns.map fun b : UInt8 => (b.toNat : Int)).foldl (fun r n => r.push (UInt8.ofNat n.toNat)) acc = ⟨(acc.data.toList ++ ns).toArray⟩ := by
  induction ns with
  | nil => intro acc; simp
  | cons b ns ih =>
    intro acc
    simp only [List.map_cons, List.foldl_cons, ih]
    apply ByteArray.ext
    apply Array.ext'
    simp [ByteArray.push]

theorem bytesOf_R : ∀ {cs : List SV} {l : List UInt8}, bytesOf cs = some l → ∀ {vs : List Value}, All2 (SVR σ h w) cs vs → ∃ ns : List Int, vs = ns.map (Value.int .u8) ∧ l = ns.map fun n => UInt8.ofNat n.toNat
  | [], l, hb, [], _ => by simp [bytesOf] at hb; subst hb; exact ⟨[], rfl, rfl⟩
  | x :: cs, l, hb, v :: vs, ha => by
    simp only [bytesOf] at hb
    split at hb
    · rename_i b r h1 h2
      injection hb with hb
      subst hb
      obtain ⟨ns, e1, e2⟩ := bytesOf_R h2 ha.2
      unfold byteOf at h1
      split at h1
      · rename_i n
        injection h1 with h1
        subst h1
        exact ⟨n :: ns, by rw [e1, show v = .int .u8 n from ha.1]; rfl, by rw [e2]; rfl⟩
      · contradiction
    · contradiction
  | [], _, _, _ :: _, ha => ha.elim
  | _ :: _, _, _, [], ha => ha.elim

theorem g_b2s (H : HR base σ h w) {s d e : TypeId} (hs : P.underlying s = some (.slice e)) (he : P.underlying e = some (.int .u8)) (hd : P.underlying d = some .string) {y : AV} {m : Nat} {cs : List SV} (hsrc : srcOf h 1 y = some (m, cs)) {l : List UInt8} (hb : bytesOf cs = some l)
    {v : Value} (hv : AVR σ h w y v) : Good P base σ h w (convert s d v) [.sc (.str l)] h := by
  obtain ⟨hlen, hsv⟩ := src_R H hsrc hv
  rcases hsv with ⟨rfl, rfl⟩ | ⟨a, c, rfl, vs, ha, hc⟩
  · have hcs : cs = [] := List.eq_nil_of_length_eq_zero (by simpa using hlen)
    subst hcs
    simp only [bytesOf] at hb
    injection hb with hb
    subst hb
    exact Good.same H (v := .string .empty) (by simp [convert, run_underlying hs, run_underlying he, run_underlying hd, Conv.bytesToString]) rfl
  · obtain ⟨ns, rfl, rfl⟩ := bytesOf_R hb ha
    have hl := All2.length ha
    have hm : m = (ns.map (Value.int .u8)).length := by rw [← hl, hlen, Nat.mul_one]
    have hr := run_bytesToString (P := P) w a m c ns (by rw [hm]; exact run_loadCells_list w a _ hc)
    have e2 : ns.foldl (fun r n => r.push (UInt8.ofNat n.toNat)) ByteArray.empty = ⟨(ns.map fun n => UInt8.ofNat n.toNat).toArray⟩ := by
      have key : ∀ (ns : List Int) (acc : ByteArray), ns.foldl (fun r n => r.push (UInt8.ofNat n.toNat)) acc = ⟨(acc.data.toList ++ ns.map fun n => UInt8.ofNat n.toNat).toArray⟩ := by
        intro ns
        induction ns with
        | nil => intro acc; simp
        | cons n ns ih =>
          intro acc
          simp only [List.foldl_cons, ih]
          apply ByteArray.ext
          apply Array.ext'
          simp [ByteArray.push]
      rw [key]
      simp
    rw [e2] at hr
    exact Good.same H (v := .string ⟨(ns.map fun n : Int => UInt8.ofNat n.toNat).toArray⟩) (by simp [convert, run_underlying hs, run_underlying he, run_underlying hd, hr]) rfl

theorem g_s2b (H : HR base σ h w) {s d e : TypeId} (hs : P.underlying s = some .string) (hd : P.underlying d = some (.slice e)) (he : P.underlying e = some (.int .u8)) (l : List UInt8) :
    Good P base σ h w (convert s d (.string ⟨l.toArray⟩)) [.sc (.sl h.length 0 l.length l.length)] (h ++ [⟨.var, bytes l⟩]) := by
  have hr := run_bytes_of_string (P := P) w s d e ⟨l.toArray⟩ hs hd he
  rw [size_mk] at hr
  have hcap := grownCap_ge w l.length 0 e
  have N := H.drew.alloc ⟨.var, bytes l⟩ (by simp) (bytesRow ⟨l.toArray⟩ (grownCap w l.length 0 e)) e ((bytesRow ⟨l.toArray⟩ (grownCap w l.length 0 e)).size, (bytesRow ⟨l.toArray⟩ (grownCap w l.length 0 e)).size + 1)
    ⟨by simp, fun i hi => by simp only; omega⟩ (by simp [bytesRow, bytes]) (fun _ _ he => by cases he) (fun i x hx => by
      have hi := lt_of_get hx
      simp only [bytes, List.length_map] at hi
      simp only [bytes, List.getElem?_map, List.getElem?_eq_getElem hi, Option.map_some] at hx
      injection hx with hx
      subst hx
      refine ⟨.int .u8 l[i].toNat, ?_, rfl⟩
      unfold bytesRow
      rw [Array.getElem?_append_left (by simpa using hi)]
      simp [hi])
  refine ⟨_, _, _, hr, N, (Ext.drew (σ := σ) (h := h) (w := w)).trans (Ext.alloc H.drew ⟨.var, bytes l⟩ (by simp) _), ⟨⟨.var, bytes l⟩, by simp, by simp [bytes], rfl, fun _ => ⟨_, _, rfl, hcap, .inl (by rw [upd_same]; exact (cell_add0 _ _).symm), trivial⟩⟩⟩

theorem g_frz (H : HR base σ h w) {t e : TypeId} (ht : P.underlying t = some (.slice e)) (he : P.underlying e = some (.int .u8)) {b n c : Nat} {v : Value} (hv : TVR σ h w [.sc (.sl b 0 n c)] v) {B : Blk} (hB : h[b]? = some B) (hf : c = B.c.length) (hk : B.k = .var) :
    Good P base σ h w (convert t t v) [.sc (.sl b 0 n c)] h := by
  obtain ⟨ad, cap, rfl, h2, h3, h4⟩ := fresh_sl (w := w) hv hB (by omega)
  have hkr : B.k ≠ .ro := by rw [hk]; simp
  obtain ⟨c', arr, el, fr, q1, q2, q3, q4, q5, q6, q7⟩ := H.open_own hB hkr
  have had : ad = ⟨c', 0, none⟩ := by
    rcases h3 with h3 | h3
    · rw [h3, q1, cell_add0]
    · omega
  subst had
  have hsh : w.shape? c' = some (el, arr.size) := by unfold World.shape?; rw [q3]
  have hlt : c' < w.heap.size := (Array.getElem?_eq_some_iff.1 q3).1
  have hrun : (convert t t (.slice (some ⟨c', 0, none⟩) n cap)).run P w = .ok (.slice (some ⟨c', 0, none⟩) n cap) (w.freeze ⟨c', arr.size, none⟩ 1) := by
    simp [convert, run_underlying ht, run_underlying he, markStringish, hsh]
  obtain ⟨lo, hi⟩ := fr
  have hheap : ∀ k, (w.freeze ⟨c', arr.size, none⟩ 1).heap[k]? = if k = c' then some (.cells arr el (if lo == hi then (arr.size, arr.size + 1) else (min lo arr.size, max hi (arr.size + 1)))) else w.heap[k]? := fun k => by
    unfold World.freeze
    rw [if_neg (by decide)]
    show (w.heap.modify c' _)[k]? = _
    rw [Array.getElem?_modify]
    by_cases hkc : c' = k
    · subst hkc
      rw [if_pos rfl, if_pos rfl, q3]
      rfl
    · rw [if_neg hkc, if_neg fun e => hkc e.symm]
  have R := H.refreeze hB hk (w' := w.freeze ⟨c', arr.size, none⟩ 1) (fr' := if lo == hi then (arr.size, arr.size + 1) else (min lo arr.size, max hi (arr.size + 1))) q1 q3 ?_ (by rw [hheap, if_pos rfl]) (fun k hkc => by rw [hheap, if_neg hkc]) rfl rfl rfl (by simp [World.freeze])
  · refine ⟨σ, _, _, hrun, R.1, R.2, ?_⟩
    exact ⟨B, hB, by omega, rfl, fun _ => ⟨_, cap, rfl, h2, .inl (by rw [q1, cell_add0]), by rw [hk]; trivial⟩⟩
  · obtain ⟨g1, g2⟩ := q4
    simp only at g1 g2
    unfold thawed
    split
    · exact ⟨by simp, fun i hi => by simp only; omega⟩
    · rename_i hne
      have hne' : lo ≠ hi := by simpa using hne
      have hlo : arr.size ≤ lo := by
        rcases Nat.lt_or_ge lo arr.size with hl | hl
        · exact absurd ⟨Nat.le_refl _, by omega⟩ (g2 lo hl)
        · exact hl
      exact ⟨by simp only; omega, fun i hi => by simp only; omega⟩
end
end Go.Abs
