/- The abstract machine, part 12b: a region whose operations do more than look: the loud ones stand in one order, the others look at each stage alike. -/
import Derived.Test.YtdodhmidhcpnnaaXC
set_option linter.unusedVariables false
set_option linter.unusedSimpArgs false
namespace Go.Abs

theorem same_eq {x y : SV} (h : x.same y = true) : x = y := by
  cases x <;> cases y <;> simp_all [SV.same]
theorem sames_eq : ∀ {l m : List SV}, sames l m = true → l = m
  | [], [], _ => rfl
  | a :: l, b :: m, h => by
    simp only [sames, Bool.and_eq_true] at h
    rw [same_eq h.1, sames_eq h.2]
  | [], _ :: _, h => by simp [sames] at h
  | _ :: _, [], h => by simp [sames] at h
theorem av_same_eq {x y : AV} (h : x.same y = true) : x = y := by
  cases x <;> cases y <;> simp only [AV.same, Bool.false_eq_true, Bool.and_eq_true] at h
  · rw [same_eq h]
  · rw [sames_eq h]
  · rw [sames_eq h.2, Nat.eq_of_beq_eq_true h.1]
  · rfl
theorem tvSame_eq : ∀ {l m : TV}, tvSame l m = true → l = m
  | [], [], _ => rfl
  | a :: l, b :: m, h => by
    simp only [tvSame, Bool.and_eq_true] at h
    rw [av_same_eq h.1, tvSame_eq h.2]
  | [], _ :: _, h => by simp [tvSame] at h
  | _ :: _, [], h => by simp [tvSame] at h
theorem hpSame_eq : ∀ {l m : Heap}, hpSame l m = true → l = m
  | [], [], _ => rfl
  | ⟨k, c⟩ :: l, ⟨k', c'⟩ :: m, h => by
    simp only [hpSame, Bool.and_eq_true, decide_eq_true_eq] at h
    obtain ⟨⟨rfl, h2⟩, h3⟩ := h
    rw [sames_eq h2, hpSame_eq h3]
  | [], _ :: _, h => by simp [hpSame] at h
  | _ :: _, [], h => by simp [hpSame] at h
theorem same_refl (x : SV) : x.same x = true := by
  cases x <;> simp [SV.same]
theorem sames_refl : ∀ l : List SV, sames l l = true
  | [] => rfl
  | a :: l => by simp [sames, same_refl, sames_refl l]
theorem av_same_refl (x : AV) : x.same x = true := by
  cases x <;> simp [AV.same, same_refl, sames_refl]
theorem tvSame_refl : ∀ l : TV, tvSame l l = true
  | [] => rfl
  | a :: l => by simp [tvSame, av_same_refl, tvSame_refl l]
theorem hpSame_refl : ∀ l : Heap, hpSame l l = true
  | [] => rfl
  | ⟨k, c⟩ :: l => by simp [hpSame, sames_refl, hpSame_refl l]

theorem blind_step {call : CallA} {op : AOp} (hb : blind op = true) {e : Env} {h h' hh : Heap} {tv : TV} (hs : stepC call op e h = some (tv, hh)) : stepC call op e h' = some (tv, h') := by
  have hq : hh = h := quiet_heap (call := call) (op := op) (by cases op <;> simp_all [blind, quietOp]) hs
  subst hq
  cases op <;> simp only [blind, Bool.false_eq_true] at hb <;> simp only [stepC, step, sc1] at hs ⊢
  all_goals first
    | (have := some_pair hs; obtain ⟨rfl, _⟩ := this; rfl)
    | (repeat' split at hs) <;> first | contradiction | (have := some_pair hs; obtain ⟨rfl, _⟩ := this; simp_all <;> omega)

theorem sp_succ : ∀ {l : List (AOper × DM)} {i : Nat} {x : AOper × DM}, l[i]? = some x → sp l (i + 1) = sp l i + (if x.2.q then 0 else 1)
  | [], i, x, h => by simp at h
  | y :: l, 0, x, h => by
    simp at h; subst h
    cases l <;> simp [sp]
  | y :: l, i + 1, x, h => by
    have := sp_succ (l := l) (i := i) (by simpa using h)
    show (if y.2.q then 0 else 1) + sp l (i + 1) = (if y.2.q then 0 else 1) + sp l i + _
    omega

theorem sp_mono {l : List (AOper × DM)} : ∀ {j i : Nat}, i ≤ j → j ≤ l.length → sp l i ≤ sp l j
  | 0, i, h, _ => by have : i = 0 := by omega
                     subst this; exact Nat.le_refl _
  | j + 1, i, h, hl => by
    by_cases hij : i = j + 1
    · subst hij; exact Nat.le_refl _
    · have h1 := sp_mono (l := l) (j := j) (i := i) (by omega) (by omega)
      have h2 := sp_succ (l := l) (i := j) (List.getElem?_eq_getElem (by omega))
      omega

theorem sp_lt {l : List (AOper × DM)} {i j : Nat} {x : AOper × DM} (hx : l[i]? = some x) (hq : x.2.q = false) (hij : i < j) (hj : j ≤ l.length) : sp l i < sp l j := by
  have h1 := sp_succ hx
  rw [hq] at h1
  have h2 := sp_mono (l := l) (i := i + 1) (j := j) hij hj
  simp at h1
  omega

theorem sp_hit {l : List (AOper × DM)} {t : Nat} : ∀ {i : Nat}, i ≤ l.length → t < sp l i → ∃ (j : Nat) (x : AOper × DM), j < i ∧ l[j]? = some x ∧ x.2.q = false ∧ sp l j = t
  | 0, _, h => by cases l <;> simp [sp] at h
  | i + 1, hi, h => by
    have hx := List.getElem?_eq_getElem (l := l) (i := i) (by omega)
    have h1 := sp_succ hx
    by_cases ht : t < sp l i
    · obtain ⟨j, x, q1, q2, q3, q4⟩ := sp_hit (l := l) (i := i) (by omega) ht
      exact ⟨j, x, by omega, q2, q3, q4⟩
    · cases hq : (l[i]'(by omega)).2.q with
      | true => rw [hq] at h1; simp at h1; omega
      | false => rw [hq] at h1; simp at h1; exact ⟨i, _, by omega, hx, hq, by omega⟩

/-- one operation, told -/
structure Told2 (call : CallA) (l : List (AOper × DM)) (hs : List Heap) (cs : List Chk) (es : Nat → Env) (tv : Nat → TV) (i : Nat) (ao : AOper) (d : DM) : Prop where
  env : es (i + 1) = put (es i) ao.dst (tv i)
  how : ∃ h, hs[sp l i]? = some h ∧
    ((guardOk ao.guard (es i) = some true ∧ ((d.q = true ∧ stepC call ao.op (envOf ao (es i)) h = some (tv i, h) ∧ (d.ck = [] ∨ (⟨d.ck, ao.op, envOf ao (es i), tv i⟩ : Chk) ∈ cs)) ∨ (d.q = false ∧ ∃ h', hs[sp l i + 1]? = some h' ∧ stepC call ao.op (envOf ao (es i)) h = some (tv i, h')))) ∨
    (guardOk ao.guard (es i) = some false ∧ tv i = [.undef] ∧ (d.q = false → hs[sp l i + 1]? = some h)))

theorem runT_told {call : CallA} : ∀ (l : List (AOper × DM)) (e e' : Env) (h h' : Heap) (hs : List Heap) (cs : List Chk), runT call l e h = some (e', h', hs, cs) →
    ∃ (es : Nat → Env) (tv : Nat → TV), es 0 = e ∧ es l.length = e' ∧ hs[0]? = some h ∧ hs[sp l l.length]? = some h' ∧ ∀ (i : Nat) (ao : AOper) (d : DM), l[i]? = some (ao, d) → Told2 call l hs cs es tv i ao d
  | [], e, e', h, h', hs, cs, hr => by
    simp only [runT] at hr
    injection hr with hr
    injection hr with q1 hr
    injection hr with q2 hr
    injection hr with q3 q4
    subst q1 q2 q3 q4
    exact ⟨fun _ => e, fun _ => [], rfl, rfl, rfl, rfl, fun i ao d hi => by simp at hi⟩
  | (o, d) :: l, e, e', h, h', hs, cs, hr => by
    have key : ∃ (tv0 : TV) (h1 : Heap) (hs1 : List Heap) (cs1 : List Chk), runT call l (put e o.dst tv0) h1 = some (e', h', hs1, cs1) ∧ (∀ c ∈ cs1, c ∈ cs) ∧
        ((d.q = true ∧ hs = hs1 ∧ h1 = h) ∨ (d.q = false ∧ hs = h :: hs1)) ∧
        ((guardOk o.guard e = some true ∧ ((d.q = true ∧ stepC call o.op (envOf o e) h = some (tv0, h) ∧ (d.ck = [] ∨ (⟨d.ck, o.op, envOf o e, tv0⟩ : Chk) ∈ cs)) ∨ (d.q = false ∧ stepC call o.op (envOf o e) h = some (tv0, h1)))) ∨
        (guardOk o.guard e = some false ∧ tv0 = [.undef] ∧ h1 = h)) := by
      simp only [runT] at hr
      split at hr
      · rename_i hg
        split at hr
        · rename_i tv0 h1 hst
          split at hr
          · rename_i e2 h2 hs1 cs1 hrun
            split at hr
            · rename_i hq
              split at hr
              · rename_i hsame
                injection hr with hr
                injection hr with q1 hr
                injection hr with q2 hr
                injection hr with q3 q4
                subst q1 q2 q3 q4
                have he : h1 = h := by
                  simp only [Bool.or_eq_true] at hsame
                  rcases hsame with hs' | hs'
                  · exact quiet_heap hs' hst
                  · exact hpSame_eq hs'
                subst he
                refine ⟨tv0, h1, hs1, cs1, hrun, fun c hc => ?_, .inl ⟨hq, rfl, rfl⟩, .inl ⟨hg, .inl ⟨hq, hst, ?_⟩⟩⟩
                · split
                  · exact hc
                  · exact List.mem_cons_of_mem _ hc
                · cases hck : d.ck with
                  | nil => exact .inl rfl
                  | cons a b => right; simp
              · contradiction
            · rename_i hq
              injection hr with hr
              injection hr with q1 hr
              injection hr with q2 hr
              injection hr with q3 q4
              subst q1 q2 q3 q4
              have hq' : d.q = false := by simpa using hq
              exact ⟨tv0, h1, hs1, cs1, hrun, fun c hc => hc, .inr ⟨hq', rfl⟩, .inl ⟨hg, .inr ⟨hq', hst⟩⟩⟩
          · contradiction
        · contradiction
      · rename_i hg
        split at hr
        · rename_i e2 h2 hs1 cs1 hrun
          split at hr
          · rename_i hq
            injection hr with hr
            injection hr with q1 hr
            injection hr with q2 hr
            injection hr with q3 q4
            subst q1 q2 q3 q4
            exact ⟨[.undef], h, hs1, cs1, hrun, fun c hc => hc, .inl ⟨hq, rfl, rfl⟩, .inr ⟨hg, rfl, rfl⟩⟩
          · rename_i hq
            injection hr with hr
            injection hr with q1 hr
            injection hr with q2 hr
            injection hr with q3 q4
            subst q1 q2 q3 q4
            exact ⟨[.undef], h, hs1, cs1, hrun, fun c hc => hc, .inr ⟨by simpa using hq, rfl⟩, .inr ⟨hg, rfl, rfl⟩⟩
        · contradiction
      · contradiction
    obtain ⟨tv0, h1, hs1, cs1, hrun, hcs, hhs, hh⟩ := key
    obtain ⟨es, tv, q1, q2, q3, q4, q5⟩ := runT_told l _ e' h1 h' hs1 cs1 hrun
    -- the stages of what comes behind
    have shift : ∀ k : Nat, hs[(if d.q then 0 else 1) + k]? = hs1[k]? := fun k => by
      rcases hhs with ⟨hq, rfl, _⟩ | ⟨hq, rfl⟩
      · simp [hq]
      · simp [hq, Nat.add_comm 1 k]
    have h0 : hs[0]? = some h := by
      rcases hhs with ⟨hq, rfl, rfl⟩ | ⟨hq, rfl⟩
      · exact q3
      · rfl
    refine ⟨fun i => match i with | 0 => e | i + 1 => es i, fun i => match i with | 0 => tv0 | i + 1 => tv i, rfl, q2, h0, ?_, fun i ao dd hi => ?_⟩
    · show hs[(if d.q then 0 else 1) + sp l l.length]? = some h'
      rw [shift]; exact q4
    · cases i with
      | zero =>
        simp only [List.getElem?_cons_zero, Option.some.injEq, Prod.mk.injEq] at hi
        obtain ⟨rfl, rfl⟩ := hi
        have hz : sp ((o, d) :: l) 0 = 0 := rfl
        refine ⟨q1, h, by rw [hz]; exact h0, ?_⟩
        rw [hz]
        rcases hh with ⟨hg, ⟨hq, hst, hck⟩ | ⟨hq, hst⟩⟩ | ⟨hg, ht, he⟩
        · exact .inl ⟨hg, .inl ⟨hq, hst, hck⟩⟩
        · refine .inl ⟨hg, .inr ⟨hq, h1, ?_, hst⟩⟩
          have := shift 0
          rw [hq] at this
          simpa [q3] using this
        · refine .inr ⟨hg, ht, fun hq => ?_⟩
          have := shift 0
          rw [hq] at this
          rw [he] at q3
          simpa [q3] using this
      | succ i =>
        have T := q5 i ao dd (by simpa using hi)
        obtain ⟨hh0, p1, p2⟩ := T.how
        have e1 : hs[sp ((o, d) :: l) (i + 1)]? = hs1[sp l i]? := shift (sp l i)
        have e2 : hs[sp ((o, d) :: l) (i + 1) + 1]? = hs1[sp l i + 1]? := by
          have := shift (sp l i + 1)
          rw [← this]
          show hs[(if d.q then 0 else 1) + sp l i + 1]? = _
          rw [Nat.add_assoc]
        refine ⟨T.env, hh0, by rw [e1]; exact p1, ?_⟩
        rw [e2]
        rcases p2 with ⟨hg, ⟨hq, hst, hck⟩ | rest⟩ | rest
        · exact .inl ⟨hg, .inl ⟨hq, hst, hck.imp id (hcs _)⟩⟩
        · exact .inl ⟨hg, .inr rest⟩
        · exact .inr rest

section
variable {P : Program} {base nt : Nat} {call : CallA}

/-- what 'okDraw2' says -/
structure DrawOk2 (ops : Array Oper) (l : List (AOper × DM)) : Prop where
  len : l.length = ops.size
  rd : ∀ (i : Nat) (a : AOper) (d : DM), l[i]? = some (a, d) → a.rd.isSome = true
  back : ∀ (i : Nat) (o : Oper), ops[i]? = some o → ∀ e ∈ o.after, Region.binds .any e = true → e.on < i
  pre : ∀ (i : Nat) (a : AOper) (d : DM) (o : Oper), l[i]? = some (a, d) → ops[i]? = some o → ∀ j ∈ d.pre, j < i ∧ (edge o j = true ∨ ∃ (m : Nat) (b : AOper) (d' : DM), m ∈ d.pre ∧ l[m]? = some (b, d') ∧ j ∈ d'.pre)
  apart : ∀ (i j : Nat) (a b : AOper) (d d' : DM) (s : Nat), i ≠ j → l[i]? = some (a, d) → l[j]? = some (b, d') → b.dst = some s → a.dst ≠ some s
  order : ∀ (i j : Nat) (a b : AOper) (d d' : DM) (s : Nat), i ≠ j → l[i]? = some (a, d) → l[j]? = some (b, d') → b.dst = some s → s ∈ sees a → if j < i then j ∈ d.pre else i ∈ d'.pre
  spine : ∀ (i j : Nat) (a b : AOper) (d d' : DM), j < i → l[i]? = some (a, d) → l[j]? = some (b, d') → d.q = false → d'.q = false → j ∈ d.pre
  win : ∀ (i : Nat) (a : AOper) (d : DM), l[i]? = some (a, d) → d.q = true → blind a.op = true ∨ ∀ t, t ≤ sp l l.length → t = sp l i ∨ t ∈ d.ck ∨
    (∃ (j : Nat) (b : AOper) (d' : DM), j ∈ d.pre ∧ l[j]? = some (b, d') ∧ d'.q = false ∧ t ≤ sp l j) ∨
    (∃ (j : Nat) (b : AOper) (d' : DM), l[j]? = some (b, d') ∧ d'.q = false ∧ i ∈ d'.pre ∧ sp l j < t)

theorem okDraw2_spec {ops : Array Oper} {l : List (AOper × DM)} (hl : l.length = ops.size) (hk : okDraw2 ops.toList l = true) : DrawOk2 ops l := by
  unfold okDraw2 at hk
  rw [List.all_eq_true] at hk
  have main : ∀ (i : Nat) (a : AOper) (d : DM) (o : Oper), l[i]? = some (a, d) → ops[i]? = some o → a.rd.isSome = true ∧ (∀ e ∈ o.after, Region.binds .any e = true → e.on < i) ∧
      (∀ j ∈ d.pre, j < i ∧ (edge o j = true ∨ ∃ (m : Nat) (b : AOper) (d' : DM), m ∈ d.pre ∧ l[m]? = some (b, d') ∧ j ∈ d'.pre)) ∧
      (∀ (j : Nat) (b : AOper) (d' : DM), i ≠ j → l[j]? = some (b, d') → (∀ s, b.dst = some s → a.dst ≠ some s) ∧ (∀ s, b.dst = some s → s ∈ sees a → if j < i then j ∈ d.pre else i ∈ d'.pre) ∧ (j < i → d.q = false → d'.q = false → j ∈ d.pre)) ∧
      (d.q = true → blind a.op = true ∨ ∀ t, t ≤ sp l l.length → t = sp l i ∨ t ∈ d.ck ∨
        (∃ (j : Nat) (b : AOper) (d' : DM), j ∈ d.pre ∧ l[j]? = some (b, d') ∧ d'.q = false ∧ t ≤ sp l j) ∨
        (∃ (j : Nat) (b : AOper) (d' : DM), l[j]? = some (b, d') ∧ d'.q = false ∧ i ∈ d'.pre ∧ sp l j < t)) := by
    intro i a d o ha ho
    have hi := lt_of_get ha
    have := hk i (List.mem_range.2 hi)
    rw [ha, Array.getElem?_toList, ho] at this
    simp only [Bool.and_eq_true, List.all_eq_true] at this
    obtain ⟨⟨⟨⟨h1, h2⟩, h3⟩, h4⟩, h5⟩ := this
    refine ⟨h1, fun e he hb => ?_, fun j hj => ?_, fun j b d' hij hb => ?_, fun hq => ?_⟩
    · have := Array.all_eq_true_iff_forall_mem.1 h2 e he
      simpa [hb] using this
    · have := h3 j hj
      simp only [decide_eq_true_eq, Bool.or_eq_true, List.any_eq_true] at this
      refine ⟨this.1, this.2.imp id fun ⟨m, hm, hc⟩ => ?_⟩
      cases hlm : l[m]? with
      | none => rw [hlm] at hc; simp at hc
      | some x =>
        obtain ⟨b, d'⟩ := x
        rw [hlm] at hc
        exact ⟨m, b, d', hm, hlm, by simpa using hc⟩
    · have := h4 j (List.mem_range.2 (lt_of_get hb))
      rw [hb] at this
      have hne : Nat.beq i j = false := by
        cases hq : Nat.beq i j with
        | false => rfl
        | true => exact absurd (Nat.eq_of_beq_eq_true hq) hij
      simp only [hne, Bool.false_or, Bool.and_eq_true, Bool.or_eq_true, bne_iff_ne, ne_eq, decide_eq_true_eq, Option.isNone_iff_eq_none] at this
      obtain ⟨⟨g1, g2⟩, g3⟩ := this
      refine ⟨fun s hs has => ?_, fun s hs hsee => ?_, fun hji hq hq' => ?_⟩
      · rcases g1 with g1 | g1
        · rw [g1] at has; simp at has
        · exact g1 (hs.trans has.symm)
      · rw [hs] at g2
        simp only [Bool.or_eq_true, Bool.not_eq_true'] at g2
        rcases g2 with g2 | g2
        · exfalso
          have : (sees a).contains s = true := by simpa using hsee
          rw [this] at g2
          simp at g2
        · split <;> rename_i hji <;> simp only [hji, if_true, if_false] at g2 <;> simpa using g2
      · rcases g3 with ((g3 | g3) | g3) | g3
        · rw [hq] at g3; simp at g3
        · rw [hq'] at g3; simp at g3
        · omega
        · simpa using g3
    · rw [hq] at h5
      simp only [Bool.not_true, Bool.false_or, Bool.or_eq_true, List.all_eq_true, List.mem_range] at h5
      refine h5.imp id fun h6 t ht => ?_
      have h7 := h6 t (by omega)
      rcases h7 with ((h7 | h7) | h7) | h7
      · exact .inl (Nat.eq_of_beq_eq_true h7)
      · exact .inr (.inl (by simpa using h7))
      · rw [List.any_eq_true] at h7
        obtain ⟨j, hj, hx⟩ := h7
        cases hlj : l[j]? with
        | none => rw [hlj] at hx; simp at hx
        | some x =>
          obtain ⟨b, d'⟩ := x
          rw [hlj] at hx
          simp only [Bool.and_eq_true, Bool.not_eq_true', decide_eq_true_eq] at hx
          exact .inr (.inr (.inl ⟨j, b, d', hj, hlj, hx.1, hx.2⟩))
      · rw [List.any_eq_true] at h7
        obtain ⟨j, hj, hx⟩ := h7
        cases hlj : l[j]? with
        | none => rw [hlj] at hx; simp at hx
        | some x =>
          obtain ⟨b, d'⟩ := x
          rw [hlj] at hx
          simp only [Bool.and_eq_true, Bool.not_eq_true', decide_eq_true_eq] at hx
          exact .inr (.inr (.inr ⟨j, b, d', hlj, hx.1.1, by simpa using hx.1.2, hx.2⟩))
  have get : ∀ (i : Nat) (x : AOper × DM), l[i]? = some x → ∃ o, ops[i]? = some o := fun i x hx => ⟨_, Array.getElem?_eq_getElem (by have := lt_of_get hx; omega)⟩
  refine ⟨hl, fun i a d ha => ?_, fun i o ho => ?_, fun i a d o ha ho => (main i a d o ha ho).2.2.1, fun i j a b d d' s hij ha hb hd => ?_, fun i j a b d d' s hij ha hb hd hs => ?_, fun i j a b d d' hji ha hb hq hq' => ?_, fun i a d ha hq => ?_⟩
  · obtain ⟨o, ho⟩ := get i _ ha
    exact (main i a d o ha ho).1
  · have hi : i < l.length := by rw [hl]; exact (Array.getElem?_eq_some_iff.1 ho).1
    exact (main i (l[i].1) (l[i].2) o (List.getElem?_eq_getElem hi) ho).2.1
  · obtain ⟨o, ho⟩ := get i _ ha
    exact ((main i a d o ha ho).2.2.2.1 j b d' hij hb).1 s hd
  · obtain ⟨o, ho⟩ := get i _ ha
    exact ((main i a d o ha ho).2.2.2.1 j b d' hij hb).2.1 s hd hs
  · obtain ⟨o, ho⟩ := get i _ ha
    exact ((main i a d o ha ho).2.2.2.1 j b d' (by omega) hb).2.2 hji hq hq'
  · obtain ⟨o, ho⟩ := get i _ ha
    exact (main i a d o ha ho).2.2.2.2 hq

/-- what is surely done before a thing that is done is done -/
theorem pre_listed {ops : Array Oper} {l : List (AOper × DM)} (D : DrawOk2 ops l) {listed : Array Bool} (hcl : ∀ (j : Nat) (o : Oper), ops[j]? = some o → listed.getD j false = true → ∀ k, edge o k = true → listed.getD k false = true) :
    ∀ (i : Nat) (a : AOper) (d : DM) (o : Oper), l[i]? = some (a, d) → ops[i]? = some o → (∀ k, edge o k = true → listed.getD k false = true) → ∀ j ∈ d.pre, listed.getD j false = true := by
  intro i
  induction i using Nat.strongRecOn with
  | _ i ih =>
    intro a d o ha ho hed
    have down : ∀ (n j : Nat), i - j ≤ n → j ∈ d.pre → listed.getD j false = true := by
      intro n
      induction n with
      | zero =>
        intro j hn hj
        have := (D.pre i a d o ha ho j hj).1
        omega
      | succ n ihn =>
        intro j hn hj
        obtain ⟨hji, hw⟩ := D.pre i a d o ha ho j hj
        rcases hw with he | ⟨m, b, d', hm, hlm, hjm⟩
        · exact hed j he
        · have hmi := (D.pre i a d o ha ho m hm).1
          have hpm : ops[m]? = some (ops[m]'(by rw [← D.len]; exact lt_of_get hlm)) := Array.getElem?_eq_getElem _
          have hjm' := (D.pre m b d' _ hlm hpm j hjm).1
          have hlm' := ihn m (by omega) hm
          exact ih m hmi b d' _ hlm hpm (fun k hk => hcl m _ hpm hlm' k hk) j hjm
    intro j hj
    exact down _ j (Nat.le_refl _) hj

theorem es_get2 {l : List (AOper × DM)} {hs : List Heap} {cs : List Chk} {es : Nat → Env} {tv : Nat → TV} (ap : ∀ (i j : Nat) (a b : AOper) (d d' : DM) (s : Nat), i ≠ j → l[i]? = some (a, d) → l[j]? = some (b, d') → b.dst = some s → a.dst ≠ some s)
    (ht : ∀ (i : Nat) (ao : AOper) (d : DM), l[i]? = some (ao, d) → Told2 call l hs cs es tv i ao d) (s : Nat) : ∀ (i : Nat), i ≤ l.length →
    (∀ (j : Nat) (b : AOper) (d : DM), j < i → l[j]? = some (b, d) → b.dst = some s → (es i).get s = tv j) ∧ ((∀ (j : Nat) (b : AOper) (d : DM), j < i → l[j]? = some (b, d) → b.dst ≠ some s) → (es i).get s = (es 0).get s)
  | 0, _ => ⟨fun j b d hj => by omega, fun _ => rfl⟩
  | i + 1, hi => by
    obtain ⟨h1, h2⟩ := es_get2 ap ht s i (by omega)
    have hlt : i < l.length := by omega
    have hli : l[i]? = some (l[i].1, l[i].2) := List.getElem?_eq_getElem hlt
    have T := ht i _ _ hli
    have step : (es (i + 1)).get s = if l[i].1.dst = some s then tv i else (es i).get s := by
      rw [T.env]
      unfold put
      cases hd : l[i].1.dst with
      | none => simp
      | some d => simp only [get_cons, Option.some.injEq]
    refine ⟨fun j b d hj hb hd => ?_, fun hn => ?_⟩
    · rw [step]
      by_cases hji : j = i
      · subst hji
        rw [hli] at hb
        injection hb with hb
        injection hb with hb _
        subst hb
        rw [if_pos hd]
      · rw [if_neg (ap i j _ b _ d s (fun e => hji e.symm) hli hb hd)]
        exact h1 j b d (by omega) hb hd
    · rw [step, if_neg (hn i _ _ (by omega) hli)]
      exact h2 fun j b d hj hb => hn j b d (by omega) hb

/-- the temporaries at a stage -/
def TmpR (σ : Nat → Addr) (h : Heap) (w : World) (l : List (AOper × DM)) (tv : Nat → TV) (e : Env) (listed : Array Bool) (ts : Array Value) : Prop :=
  ∀ s, (∀ (j : Nat) (b : AOper) (d : DM), l[j]? = some (b, d) → listed.getD j false = true → b.dst = some s → TVR σ h w (tv j) (ts.getD s undef)) ∧
    ((∀ (j : Nat) (b : AOper) (d : DM), l[j]? = some (b, d) → listed.getD j false = true → b.dst ≠ some s) → TVR σ h w (e.get s) (ts.getD s undef))

structure Mid2 (base nt : Nat) (ops : Array Oper) (l : List (AOper × DM)) (hs : List Heap) (tv : Nat → TV) (e : Env) (σ0 : Nat → Addr) (h0 : Heap) (w0 : World) (listed : Array Bool) (a : Act) (w : World) : Prop where
  ex : ∃ (t : Nat) (h : Heap) (σ : Nat → Addr), hs[t]? = some h ∧ t ≤ sp l l.length ∧ HR base σ h w ∧ Ext σ0 h0 w0 σ h w ∧ TmpR σ h w l tv e listed a.tmps ∧
    ∀ (j : Nat) (b : AOper) (d : DM), l[j]? = some (b, d) → d.q = false → (listed.getD j false = true ↔ sp l j < t)
  defers : a.defers = []
  size : nt ≤ a.tmps.size
  lsize : listed.size = l.length
  closed : ∀ (j : Nat) (o : Oper), ops[j]? = some o → listed.getD j false = true → ∀ k, edge o k = true → listed.getD k false = true

theorem all_listed2 {ops : Array Oper} {l : List (AOper × DM)} (D : DrawOk2 ops l) {listed : Array Bool} (hs : listed.size = ops.size) (hr : Region.ready .any ops listed = []) : ∀ i, i < ops.size → listed.getD i false = true := by
  intro i
  induction i using Nat.strongRecOn with
  | _ i ih =>
    intro hi
    cases hb : listed.getD i false with
    | true => rfl
    | false =>
      exfalso
      have : i ∈ Region.ready .any ops listed := (ready_iff hs).2 ⟨ops[i], Array.getElem?_eq_getElem hi, hb, fun e he hbe => by
        have hlt := D.back i _ (Array.getElem?_eq_getElem hi) e he hbe
        exact ih e.on hlt (by omega)⟩
      rw [hr] at this
      simp at this

theorem any_sim2 (hc : CallOk P call) {ops : Array Oper} {l : List (AOper × DM)} (D : DrawOk2 ops l) (hk : okRow P nt ops (l.map (·.1)) ops.toList = true) {hs : List Heap} {cs : List Chk} {es : Nat → Env} {tv : Nat → TV} (ht : ∀ (i : Nat) (ao : AOper) (d : DM), l[i]? = some (ao, d) → Told2 call l hs cs es tv i ao d) (hcs : ∀ c ∈ cs, chkOk call hs c = true)
    {h' : Heap} (hend : hs[sp l l.length]? = some h') {Q : Exit → Act → World → Prop} {σ0 : Nat → Addr} {h0 : Heap} {w0 : World} (hQ : ∀ σ' w' a', St base σ' h' w' (es l.length) nt a' → Ext σ0 h0 w0 σ' h' w' → Q .normal a' w') : ∀ (fuel : Nat) (listed : Array Bool) (a : Act) (w : World), unl listed ops.size = fuel → Mid2 base nt ops l hs tv (es 0) σ0 h0 w0 listed a w →
    wpAny P .any ops Q fuel listed a w := by
  have fin : ∀ (listed : Array Bool) (a : Act) (w : World), (∀ i, i < ops.size → listed.getD i false = true) → Mid2 base nt ops l hs tv (es 0) σ0 h0 w0 listed a w → Q .normal a w := by
    intro listed a w hall M
    obtain ⟨t, h, σ, hh, htl, H, E, hT, hst⟩ := M.ex
    have : t = sp l l.length := by
      rcases Nat.lt_or_ge t (sp l l.length) with hlt | hge
      · obtain ⟨j, x, hj, hx, hq, hsp⟩ := sp_hit (Nat.le_refl _) hlt
        have := (hst j x.1 x.2 hx hq).1 (hall j (by rw [← D.len]; exact hj))
        omega
      · omega
    subst this
    rw [hend] at hh
    injection hh with hh
    subst hh
    refine hQ σ w a ⟨H, fun s => ?_, M.defers, M.size⟩ E
    obtain ⟨g1, g2⟩ := es_get2 D.apart ht s l.length (Nat.le_refl _)
    by_cases hex : ∃ (j : Nat) (b : AOper) (d : DM), l[j]? = some (b, d) ∧ b.dst = some s
    · obtain ⟨j, b, d, hb, hd⟩ := hex
      rw [g1 j b d (lt_of_get hb) hb hd]
      exact (hT s).1 j b d hb (hall j (by rw [← D.len]; exact lt_of_get hb)) hd
    · rw [g2 fun j b d _ hb hd => hex ⟨j, b, d, hb, hd⟩]
      exact (hT s).2 fun j b d hb _ hd => hex ⟨j, b, d, hb, hd⟩
  intro fuel
  induction fuel with
  | zero =>
    intro listed a w hf M
    have hall := unl_zero hf
    refine ⟨?_, fin listed a w hall M⟩
    rw [List.eq_nil_iff_forall_not_mem]
    intro i hi
    obtain ⟨o, ho, h1, _⟩ := (ready_iff (by rw [M.lsize, D.len])).1 hi
    rw [hall i (Array.getElem?_eq_some_iff.1 ho).1] at h1
    simp at h1
  | succ fuel ih =>
    intro listed a w hf M
    have hsz : listed.size = ops.size := by rw [M.lsize, D.len]
    refine ⟨fun hr => fin listed a w (all_listed2 D hsz hr) M, fun i hi => ?_⟩
    obtain ⟨o, ho, hl, hedges⟩ := (ready_iff hsz).1 hi
    have hiops := (Array.getElem?_eq_some_iff.1 ho).1
    have hil : i < l.length := by rw [D.len]; exact hiops
    obtain ⟨ao, d, hao⟩ : ∃ ao d, l[i]? = some (ao, d) := ⟨l[i].1, l[i].2, List.getElem?_eq_getElem hil⟩
    obtain ⟨hrl, hrow⟩ := okRow_get hk
    have hok := hrow i ao o (by rw [List.getElem?_map, hao]; rfl) (by rw [Array.getElem?_toList]; exact ho)
    obtain ⟨hdst, hdlt, hg⟩ := okAO_dst hok
    have T := ht i ao d hao
    obtain ⟨t, h, σ, hh, htl, H, E, hT, hst⟩ := M.ex
    have hed : ∀ k, edge o k = true → listed.getD k false = true := fun k hk' => by
      obtain ⟨e, he, hb, hon⟩ := edge_mem.1 hk'
      rw [← hon]; exact hedges e he hb
    have hpre := pre_listed D M.closed i ao d o hao ho hed
    have hpre' : ∀ (j : Nat) (b : AOper) (d' : DM), l[j]? = some (b, d') → i ∈ d'.pre → listed.getD j false = false := fun j b d' hb hij => by
      cases hq : listed.getD j false with
      | false => rfl
      | true =>
        have hp : ops[j]? = some (ops[j]'(by rw [← D.len]; exact lt_of_get hb)) := Array.getElem?_eq_getElem _
        have := pre_listed D M.closed j b d' _ hb hp (fun k hk' => M.closed j _ hp hq k hk') i hij
        rw [hl] at this
        simp at this
    -- what the operation sees reads as in the text's order
    have seen : ∀ s, s ∈ sees ao → TVR σ h w ((es i).get s) (a.tmps.getD s undef) := fun s hsee => by
      obtain ⟨g1, g2⟩ := es_get2 D.apart ht s i (by omega)
      by_cases hex : ∃ (j : Nat) (b : AOper) (d' : DM), l[j]? = some (b, d') ∧ b.dst = some s ∧ j ≠ i
      · obtain ⟨j, b, d', hb, hd, hji⟩ := hex
        have ho' := D.order i j ao b d d' s (fun e => hji e.symm) hao hb hd hsee
        split at ho'
        · rename_i hlt
          rw [g1 j b d' hlt hb hd]
          exact (hT s).1 j b d' hb (hpre j ho') hd
        · rename_i hge
          have hjn := hpre' j b d' hb ho'
          have only : ∀ (k : Nat) (c : AOper) (d'' : DM), l[k]? = some (c, d'') → c.dst = some s → k = j := fun k c d'' hc hcd => by
            by_cases hkj : k = j
            · exact hkj
            · exact absurd hcd (D.apart k j c b d'' d' s hkj hc hb hd)
          rw [g2 fun k c d'' hk hc hcd => by have := only k c d'' hc hcd; omega]
          exact (hT s).2 fun k c d'' hc hkl hcd => by rw [only k c d'' hc hcd, hjn] at hkl; simp at hkl
      · have none' : ∀ (k : Nat) (c : AOper) (d'' : DM), l[k]? = some (c, d'') → c.dst = some s → k = i := fun k c d'' hc hcd => by
          by_cases hki : k = i
          · exact hki
          · exact absurd ⟨k, c, d'', hc, hcd, hki⟩ hex
        rw [g2 fun k c d'' hk hc hcd => by have := none' k c d'' hc hcd; omega]
        exact (hT s).2 fun k c d'' hc hkl hcd => by rw [none' k c d'' hc hcd, hl] at hkl; simp at hkl
    -- the environment that it is given
    obtain ⟨ks, hks⟩ := Option.isSome_iff_exists.1 (D.rd i ao d hao)
    have henv : EnvR σ h w (envOf ao (es i)) a.tmps := fun s => by
      unfold envOf
      rw [hks]
      simp only
      by_cases hin : s ∈ ks
      · have hsee : s ∈ sees ao := by unfold sees; rw [hks]; exact List.mem_append_left _ hin
        rcases get_keep ks (es i) s with hgk | hgk
        · rw [hgk]; exact seen s hsee
        · rw [hgk]; trivial
      · have : (keep ks (es i)).get s = [] := by
          clear hks hsz
          induction ks with
          | nil => rfl
          | cons k ks ihk =>
            have e1 : keep (k :: ks) (es i) = (k, (es i).get k) :: keep ks (es i) := rfl
            rw [e1, get_cons, if_neg (fun e => hin (by simp [e]))]
            exact ihk (fun hh => hin (by simp [hh]))
        rw [this]
        trivial
    -- behind it
    have behind : ∀ (t' : Nat) (h1 : Heap) σ' w' v, hs[t']? = some h1 → t' ≤ sp l l.length → ((d.q = true ∧ t' = t) ∨ (d.q = false ∧ sp l i = t ∧ t' = t + 1)) → HR base σ' h1 w' → Ext σ h w σ' h1 w' → TVR σ' h1 w' (tv i) v → wpAny P .any ops Q fuel (listed.setIfInBounds i true) (a.put o.dst v) w' := fun t' h1 σ' w' v hh1 ht' hstage H' E' hv => by
      have hu := unl_step hsz hiops hl
      have tmp : ∀ s, (a.put o.dst v).tmps.getD s undef = if ao.dst = some s then v else a.tmps.getD s undef := fun s => by
        rw [← hdst]
        cases hd : ao.dst with
        | none => simp [Act.put]
        | some dd =>
          have hdl : dd < a.tmps.size := Nat.lt_of_lt_of_le (hdlt dd hd) M.size
          show (a.tmps.setIfInBounds dd v).getD s undef = _
          by_cases hds : dd = s
          · subst hds; simp [Array.getD, hdl]
          · rw [if_neg (by simpa using hds)]
            simp only [Array.getD_eq_getD_getElem?]
            rw [Array.getElem?_setIfInBounds_ne hds]
      have hrel : TmpR σ' h1 w' l tv (es 0) (listed.setIfInBounds i true) (a.put o.dst v).tmps := fun s => by
        rw [tmp s]
        refine ⟨fun j b d' hb hj hbd => ?_, fun hn => ?_⟩
        · rw [set_getD listed i j (by omega)] at hj
          by_cases hij : i = j
          · subst hij
            rw [hao] at hb
            injection hb with hb
            injection hb with hb _
            subst hb
            rw [if_pos hbd]
            exact hv
          · rw [if_neg hij] at hj
            rw [if_neg (D.apart i j ao b d d' s hij hao hb hbd)]
            exact TVR.ext H E' ((hT s).1 j b d' hb hj hbd)
        · rw [if_neg (hn i ao d hao (by rw [set_getD listed i i (by omega)]; simp))]
          refine TVR.ext H E' ((hT s).2 fun j b d' hb hj hbd => hn j b d' hb ?_ hbd)
          rw [set_getD listed i j (by omega)]
          split
          · rfl
          · exact hj
      refine ih _ _ _ (by omega) ⟨⟨t', h1, σ', hh1, ht', H', E.trans E', hrel, fun j b d' hb hq => ?_⟩, by rw [put_defers']; exact M.defers, by rw [put_size']; exact M.size, by simp [M.lsize], fun j p hp hj k hek => ?_⟩
      · rw [set_getD listed i j (by omega)]
        by_cases hij : i = j
        · subst hij
          rw [hao] at hb
          injection hb with hb
          injection hb with _ hb
          subst hb
          rcases hstage with ⟨hq', _⟩ | ⟨_, hsp, rfl⟩
          · rw [hq] at hq'; simp at hq'
          · simp; omega
        · rw [if_neg hij, hst j b d' hb hq]
          rcases hstage with ⟨_, rfl⟩ | ⟨hq', hsp, rfl⟩
          · exact Iff.rfl
          · have hne : sp l j ≠ t := fun he => by
              rcases Nat.lt_or_gt_of_ne hij with hlt | hgt
              · have := sp_lt hao hq' hlt (Nat.le_of_lt (lt_of_get hb)); omega
              · have := sp_lt hb hq hgt (Nat.le_of_lt (lt_of_get hao)); omega
            omega
      · rw [set_getD listed i j (by omega)] at hj
        rw [set_getD listed i k (by omega)]
        by_cases hik : i = k
        · rw [if_pos hik]
        · rw [if_neg hik]
          by_cases hij : i = j
          · subst hij
            rw [ho] at hp
            injection hp with hp
            subst hp
            exact hed k hek
          · rw [if_neg hij] at hj
            exact M.closed j p hp hj k hek
    -- the guard
    have genv : ∀ b, guardOk ao.guard (es i) = some b → Region.wanted o (yielded ops a.tmps) = b := fun b hb => by
      have hgE : EnvR σ h w (keep (match ao.guard with | some (s, _) => [s] | none => []) (es i)) a.tmps := fun s => by
        cases hgd : ao.guard with
        | none => exact trivial
        | some sb =>
          obtain ⟨s0, b0⟩ := sb
          simp only
          have e1 : keep [s0] (es i) = [(s0, (es i).get s0)] := rfl
          rw [e1, get_cons]
          by_cases h0 : s0 = s
          · subst h0
            rw [if_pos rfl]
            exact seen s0 (by unfold sees; rw [hgd]; exact List.mem_append_right _ (by simp))
          · rw [if_neg h0]; trivial
      refine guard_wanted hg hgE ?_
      cases hgd : ao.guard with
      | none => rw [hgd] at hb; exact hb
      | some sb =>
        obtain ⟨s0, b0⟩ := sb
        rw [hgd] at hb
        simp only [guardOk] at hb ⊢
        have e1 : keep [s0] (es i) = [(s0, (es i).get s0)] := rfl
        rw [e1, get_cons, if_pos rfl]
        exact hb
    -- the stage of a loud one
    have loud : d.q = false → sp l i = t := fun hq => by
      have h1 : ¬ sp l i < t := fun hlt => by
        have := (hst i ao d hao hq).2 hlt
        rw [hl] at this
        simp at this
      rcases Nat.lt_or_ge t (sp l i) with hlt | hge
      · obtain ⟨j, x, hj, hx, hq', hsp⟩ := sp_hit (by omega) hlt
        have := (hst j x.1 x.2 hx hq').1 (hpre j (D.spine i j ao x.1 d x.2 hj hao hx hq hq'))
        omega
      · omega
    unfold wpOp
    rw [ho]
    simp only
    obtain ⟨hh0, p1, p2⟩ := T.how
    rcases p2 with ⟨hgo, hstep⟩ | ⟨hgo, hnil, hskip⟩
    · rw [if_pos (genv true hgo)]
      refine .inl ?_
      have S : St base σ h w [] nt a := ⟨H, fun s => trivial, M.defers, M.size⟩
      rcases hstep with ⟨hq, hst0, hck⟩ | ⟨hq, h1, hh1, hst0⟩
      · have hstt : stepC call ao.op (envOf ao (es i)) h = some (tv i, h) := by
          rcases D.win i ao d hao hq with hb | hw
          · exact blind_step hb hst0
          · rcases hw t htl with he | hin | ⟨j, b, d', hj, hb, hq', hle⟩ | ⟨j, b, d', hb, hq', hij, hlt⟩
            · rw [← he, hh] at p1
              injection p1 with p1
              subst p1
              exact hst0
            · rcases hck with hck | hck
              · rw [hck] at hin; simp at hin
              · have := hcs _ hck
                unfold chkOk at this
                rw [List.all_eq_true] at this
                have := this t hin
                simp only [hh] at this
                split at this
                · rename_i tv' hx hstx
                  simp only [Bool.and_eq_true, Bool.or_eq_true] at this
                  have e1 := tvSame_eq this.1
                  have e2 : hx = h := by
                    rcases this.2 with h3 | h3
                    · exact quiet_heap h3 hstx
                    · exact hpSame_eq h3
                  rw [hstx, e1, e2]
                · simp at this
            · have := (hst j b d' hb hq').1 (hpre j hj)
              omega
            · have h3 := hpre' j b d' hb hij
              have := (hst j b d' hb hq').2 hlt
              rw [h3] at this
              simp at this
        exact op_sim hc S hok henv hstt fun σ' w' v S' E' hv => behind t h σ' w' v hh htl (.inl ⟨hq, rfl⟩) S'.hr E' hv
      · have hsp := loud hq
        rw [hsp, hh] at p1
        injection p1 with p1
        subst p1
        rw [hsp] at hh1
        have hlt := sp_lt hao hq hil (Nat.le_refl _)
        exact op_sim hc S hok henv hst0 fun σ' w' v S' E' hv => behind (t + 1) h1 σ' w' v hh1 (by omega) (.inr ⟨hq, hsp, rfl⟩) S'.hr E' hv
    · rw [if_neg (by rw [genv false hgo]; simp)]
      cases hq : d.q with
      | true => exact behind t h σ w undef hh htl (.inl ⟨hq, rfl⟩) H (Ext.refl _ _ _) (by rw [hnil]; rfl)
      | false =>
        have hsp := loud hq
        have hh1 := hskip hq
        rw [hsp, hh] at p1
        injection p1 with p1
        subst p1
        rw [hsp] at hh1
        have hlt := sp_lt hao hq hil (Nat.le_refl _)
        exact behind (t + 1) h σ w undef hh1 (by omega) (.inr ⟨hq, hsp, rfl⟩) H (Ext.refl _ _ _) (by rw [hnil]; rfl)

/-- a region whose order is drawn, with loud operations in it -/
theorem draw2_sim (hc : CallOk P call) (hm : P.follows .mixedOrders = true) {ops : Array Oper} {l : List (AOper × DM)} (hk : okRow P nt ops (l.map (·.1)) ops.toList = true) (hd : okDraw2 ops.toList l = true) {e e' : Env} {h h' : Heap} {σ : Nat → Addr} {w : World} {a : Act} {id : Nat} {Q : Exit → Act → World → Prop}
    (hr : runDr call l e h = some (e', h')) (S : St base σ h w e nt a) (hQ : ∀ σ' w' a', St base σ' h' w' e' nt a' → Ext σ h w σ' h' w' → Q .normal a' w') : (Code.region id ops true).wp P Q a w := by
  have hl : l.length = ops.size := by have := (okRow_get hk).1; simpa using this
  have D := okDraw2_spec hl hd
  unfold runDr at hr
  split at hr
  · rename_i e1 h1 hs cs hrun
    split at hr
    · rename_i hcs
      obtain ⟨rfl, rfl⟩ := some_pair hr
      rw [List.all_eq_true] at hcs
      obtain ⟨es, tv, q1, q2, q3, q4, ht⟩ := runT_told l e e1 h h1 hs cs hrun
      refine wp_region_any hm ?_
      have hw : ({ w with drawn := w.drawn + 1 } : World) = w.drew := rfl
      rw [hw]
      have hrep : ∀ i, (Array.replicate ops.size false).getD i false = false := fun i => by
        simp only [Array.getD_eq_getD_getElem?, Array.getElem?_replicate]
        split <;> rfl
      refine any_sim2 hc D hk ht hcs q4 (σ0 := σ) (h0 := h) (w0 := w.drew) (fun σ' w' a' S' E' => ?_) ops.size _ a w.drew ?_ ⟨⟨0, h, σ, q3, Nat.zero_le _, S.hr.drew, Ext.refl _ _ _, fun s => ⟨fun j b d _ hj => by rw [hrep] at hj; simp at hj, fun _ => by rw [q1]; exact TVR.ext S.hr Ext.drew (S.env s)⟩, fun j b d hb hq => by rw [hrep]; simp⟩, S.defers, S.size, by simp [hl], fun j o _ hj => by rw [hrep] at hj; simp at hj⟩
      · rw [q2] at S'
        exact hQ σ' w' a' S' ((Ext.drew (σ := σ) (h := h) (w := w)).trans E')
      · unfold unl
        rw [List.countP_eq_length.2 fun i _ => by rw [hrep]; rfl]
        simp
    · contradiction
  · contradiction
end
end Go.Abs
