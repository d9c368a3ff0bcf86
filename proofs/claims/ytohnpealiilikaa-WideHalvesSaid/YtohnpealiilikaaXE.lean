/- The abstract machine, part 12b: a region whose operations do more than look: the loud ones stand in one order, the others look at each stage alike. -/
import Derived.Test.YtohnpealiilikaaXC
set_option linter.unusedVariables false
set_option linter.unusedSimpArgs false
namespace Go.Abs

theorem same_eq {x y : SV} (h : x.same y = true) : x = y := by
  cases x <;> cases y <;> simp_all [SV.same]
theorem sames_eq : ∀ {l m : List SV}, sames l m = true → l = m
  | [], [], _ => rfl
  | a :: l, b :: m, h => by
    simp only [sames, Bool.and_eq_true] at h
    rw [same_eq h.1, sames_eq h.2]
  | [], _ :: _, h => by simp [sames] at h
  | _ :: _, [], h => by simp [sames] at h
theorem av_same_eq {x y : AV} (h : x.same y = true) : x = y := by
  cases x <;> cases y <;> simp only [AV.same, Bool.false_eq_true, Bool.and_eq_true] at h
  · rw [same_eq h]
  · rw [sames_eq h]
  · rw [sames_eq h.2, Nat.eq_of_beq_eq_true h.1]
  · rfl
theorem tvSame_eq : ∀ {l m : TV}, tvSame l m = true → l = m
  | [], [], _ => rfl
  | a :: l, b :: m, h => by
    simp only [tvSame, Bool.and_eq_true] at h
    rw [av_same_eq h.1, tvSame_eq h.2]
  | [], _ :: _, h => by simp [tvSame] at h
  | _ :: _, [], h => by simp [tvSame] at h
theorem hpSame_eq : ∀ {l m : Heap}, hpSame l m = true → l = m
  | [], [], _ => rfl
  | ⟨k, c⟩ :: l, ⟨k', c'⟩ :: m, h => by
    simp only [hpSame, Bool.and_eq_true, decide_eq_true_eq] at h
    obtain ⟨⟨rfl, h2⟩, h3⟩ := h
    rw [sames_eq h2, hpSame_eq h3]
  | [], _ :: _, h => by simp [hpSame] at h
  | _ :: _, [], h => by simp [hpSame] at h
theorem same_refl (x : SV) : x.same x = true := by
  cases x <;> simp [SV.same]
theorem sames_refl : ∀ l : List SV, sames l l = true
  | [] => rfl
  | a :: l => by simp [sames, same_refl, sames_refl l]
theorem av_same_refl (x : AV) : x.same x = true := by
  cases x <;> simp [AV.same, same_refl, sames_refl]
theorem tvSame_refl : ∀ l : TV, tvSame l l = true
  | [] => rfl
  | a :: l => by simp [tvSame, av_same_refl, tvSame_refl l]
theorem hpSame_refl : ∀ l : Heap, hpSame l l = true
  | [] => rfl
  | ⟨k, c⟩ :: l => by simp [hpSame, sames_refl, hpSame_refl l]

theorem blind_step {call : CallA} {op : AOp} (hb : blind op = true) {e : Env} {h h' hh : Heap} {tv : TV} (hs : stepC call op e h = some (tv, hh)) : stepC call op e h' = some (tv, h') := by
  have hq : hh = h := quiet_heap (call := call) (op := op) (by cases op <;> simp_all [blind, quietOp]) hs
  subst hq
  cases op <;> simp only [blind, Bool.false_eq_true] at hb <;> simp only [stepC, step, sc1] at hs ⊢
  all_goals first
    | (have := some_pair hs; obtain ⟨rfl, _⟩ := this; rfl)
    | (repeat' split at hs) <;> first | contradiction | (have := some_pair hs; obtain ⟨rfl, _⟩ := this; simp_all <;> omega)

theorem sp_succ : ∀ {l : List (AOper × DM)} {i : Nat} {x : AOper × DM}, l[i]? = some x → sp l (i + 1) = sp l i + (if x.2.q then 0 else 1)
  | [], i, x, h => by simp at h
  | y :: l, 0, x, h => by
    simp at h; subst h
    cases l <;> simp [sp]
  | y :: l, i + 1, x, h => by
    have := sp_succ (l := l) (i := i) (by simpa using h)
    show (if y.2.q then 0 else 1) + sp l (i + 1) = (if y.2.q then 0 else 1) + sp l i + _
    omega

theorem sp_mono {l : List (AOper × DM)} : ∀ {j i : Nat}, i ≤ j → j ≤ l.length → sp l i ≤ sp l j
  | 0, i, h, _ => by have : i = 0 := by omega
                     subst this; exact Nat.le_refl _
  | j + 1, i, h, hl => by
    by_cases hij : i = j + 1
    · subst hij; exact Nat.le_refl _
    · have h1 := sp_mono (l := l) (j := j) (i := i) (by omega) (by omega)
      have h2 := sp_succ (l := l) (i := j) (List.getElem?_eq_getElem (by omega))
      omega

theorem sp_lt {l : List (AOper × DM)} {i j : Nat} {x : AOper × DM} (hx : l[i]? = some x) (hq : x.2.q = false) (hij : i < j) (hj : j ≤ l.length) : sp l i < sp l j := by
  have h1 := sp_succ hx
  rw [hq] at h1
  have h2 := sp_mono (l := l) (i := i + 1) (j := j) hij hj
  simp at h1
  omega

theorem sp_hit {l : List (AOper × DM)} {t : Nat} : ∀ {i : Nat}, i ≤ l.length → t < sp l i → ∃ (j : Nat) (x : AOper × DM), j < i ∧ l[j]? = some x ∧ x.2.q = false ∧ sp l j = t
  | 0, _, h => by cases l <;> simp [sp] at h
  | i + 1, hi, h => by
    have hx := List.getElem?_eq_getElem (l := l) (i := i) (by omega)
    have h1 := sp_succ hx
    by_cases ht : t < sp l i
    · obtain ⟨j, x, q1, q2, q3, q4⟩ := sp_hit (l := l) (i := i) (by omega) ht
      exact ⟨j, x, by omega, q2, q3, q4⟩
    · cases hq : (l[i]'(by omega)).2.q with
      | true => rw [hq] at h1; simp at h1; omega
      | false => rw [hq] at h1; simp at h1; exact ⟨i, _, by omega, hx, hq, by omega⟩

/-- one operation, told -/
structure Told2 (call : CallA) (l : List (AOper × DM)) (hs : List Heap) (cs : List Chk) (es : Nat → Env) (tv : Nat → TV) (i : Nat) (ao : AOper) (d : DM) : Prop where
  env : es (i + 1) = put (es i) ao.dst (tv i)
  how : ∃ h, hs[sp l i]? = some h ∧
    ((guardOk ao.guard (es i) = some true ∧ ((d.q = true ∧ stepC call ao.op (envOf ao (es i)) h = some (tv i, h) ∧ (d.ck = [] ∨ (⟨d.ck, ao.op, envOf ao (es i), tv i⟩ : Chk) ∈ cs)) ∨ (d.q = false ∧ ∃ h', hs[sp l i + 1]? = some h' ∧ stepC call ao.op (envOf ao (es i)) h = some (tv i, h')))) ∨
    (guardOk ao.guard (es i) = some false ∧ tv i = [.undef] ∧ (d.q = false → hs[sp l i + 1]? = some h)))

theorem runT_told {call : CallA} : ∀ (l : List (AOper × DM)) (e e' : Env) (h h' : Heap) (hs : List Heap) (cs : List Chk), runT call l e h = some (e', h', hs, cs) →
    ∃ (es : Nat → Env) (tv : Nat → TV), es 0 = e ∧ es l.length = e' ∧ hs[0]? = some h ∧ hs[sp l l.length]? = some h' ∧ ∀ (i : Nat) (ao : AOper) (d : DM), l[i]? = some (ao, d) → Told2 call l hs cs es tv i ao d
  | [], e, e', h, h', hs, cs, hr => by
    simp only [runT] at hr
    injection hr with hr
    injection hr with q1 hr
    injection hr with q2 hr
    injection hr with q3 q4
    subst q1 q2 q3 q4
    exact ⟨fun _ => e, fun _ => [], rfl, rfl, rfl, rfl, fun i ao d hi => by simp at hi⟩
  | (o, d) :: l, e, e', h, h', hs, cs, hr => by
    have key : ∃ (tv0 : TV) (h1 : Heap) (hs1 : List Heap) (cs1 : List Chk), runT call l (put e o.dst tv0) h1 = some (e', h', hs1, cs1) ∧ (∀ c ∈ cs1, c ∈ cs) ∧
        ((d.q = true ∧ hs = hs1 ∧ h1 = h) ∨ (d.q = false ∧ hs = h :: hs1)) ∧
        ((guardOk o.guard e = some true ∧ ((d.q = true ∧ stepC call o.op (envOf o e) h = some (tv0, h) ∧ (d.ck = [] ∨ (⟨d.ck, o.op, envOf o e, tv0⟩ : Chk) ∈ cs)) ∨ (d.q = false ∧ stepC call o.op (envOf o e) h = some (tv0, h1)))) ∨
        (guardOk o.guard e = some false ∧ tv0 = [.undef] ∧ h1 = h)) := by
      simp only [runT] at hr
      split at hr
      · rename_i hg
        split at hr
        · rename_i tv0 h1 hst
          split at hr
          · rename_i e2 h2 hs1 cs1 hrun
            split at hr
            · rename_i hq
              split at hr
              · rename_i hsame
                injection hr with hr
                injection hr with q1 hr
                injection hr with q2 hr
                injection hr with q3 q4
                subst q1 q2 q3 q4
                have he : h1 = h := by
                  simp only [Bool.or_eq_true] at hsame
                  rcases hsame with hs' | hs'
                  · exact quiet_heap hs' hst
                  · exact hpSame_eq hs'
                subst he
                refine ⟨tv0, h1, hs1, cs1, hrun, fun c hc => ?_, .inl ⟨hq, rfl, rfl⟩, .inl ⟨hg, .inl ⟨hq, hst, ?_⟩⟩⟩
                · split
                  · exact hc
                  · exact List.mem_cons_of_mem _ hc
                · cases hck : d.ck with
                  | nil => exact .inl rfl
                  | cons a b => right; simp
              · contradiction
            · rename_i hq
              injection hr with hr
              injection hr with q1 hr
              injection hr with q2 hr
              injection hr with q3 q4
              subst q1 q2 q3 q4
              have hq' : d.q = false := by simpa using hq
              exact ⟨tv0, h1, hs1, cs1, hrun, fun c hc => hc, .inr ⟨hq', rfl⟩, .inl ⟨hg, .inr ⟨hq', hst⟩⟩⟩
          · contradiction
        · contradiction
      · rename_i hg
        split at hr
        · rename_i e2 h2 hs1 cs1 hrun
          split at hr
          · rename_i hq
            injection hr with hr
            injection hr with q1 hr
            injection hr with q2 hr
            injection hr with q3 q4
            subst q1 q2 q3 q4
            exact ⟨[.undef], h, hs1, cs1, hrun, fun c hc => hc, .inl ⟨hq, rfl, rfl⟩, .inr ⟨hg, rfl, rfl⟩⟩
          · rename_i hq
            injection hr with hr
            injection hr with q1 hr
            injection hr with q2 hr
            injection hr with q3 q4
            subst q1 q2 q3 q4
            exact ⟨[.undef], h, hs1, cs1, hrun, fun c hc => hc, .inr ⟨by simpa using hq, rfl⟩, .inr ⟨hg, rfl, rfl⟩⟩
        · contradiction
      · contradiction
    obtain ⟨tv0, h1, hs1, cs1, hrun, hcs, hhs, hh⟩ := key
    obtain ⟨es, tv, q1, q2, q3, q4, q5⟩ := runT_told l _ e' h1 h' hs1 cs1 hrun
    -- the stages of what comes behind
    have shift : ∀ k : Nat, hs[(if d.q then 0 else 1) + k]? = hs1[k]? := fun k => by
      rcases hhs with ⟨hq, rfl, _⟩ | ⟨hq, rfl⟩
      · simp [hq]
      · simp [hq, Nat.add_comm 1 k]
    have h0 : hs[0]? = some h := by
      rcases hhs with ⟨hq, rfl, rfl⟩ | ⟨hq, rfl⟩
      · exact q3
      · rfl
    refine ⟨fun i => match i with | 0 => e | i + 1 => es i, fun i => match i with | 0 => tv0 | i + 1 => tv i, rfl, q2, h0, ?_, fun i ao dd hi => ?_⟩
    · show hs[(if d.q then 0 else 1) + sp l l.length]? = some h'
      rw [shift]; exact q4
    · cases i with
      | zero =>
        simp only [List.getElem?_cons_zero, Option.some.injEq, Prod.mk.injEq] at hi
        obtain ⟨rfl, rfl⟩ := hi
        have hz : sp ((o, d) :: l) 0 = 0 := rfl
        refine ⟨q1, h, by rw [hz]; exact h0, ?_⟩
        rw [hz]
        rcases hh with ⟨hg, ⟨hq, hst, hck⟩ | ⟨hq, hst⟩⟩ | ⟨hg, ht, he⟩
        · exact .inl ⟨hg, .inl ⟨hq, hst, hck⟩⟩
        · refine .inl ⟨hg, .inr ⟨hq, h1, ?_, hst⟩⟩
          have := shift 0
          rw [hq] at this
          simpa [q3] using this
        · refine .inr ⟨hg, ht, fun hq => ?_⟩
          have := shift 0
          rw [hq] at this
          rw [he] at q3
          simpa [q3] using this
      | succ i =>
        have T := q5 i ao dd (by simpa using hi)
        obtain ⟨hh0, p1, p2⟩ := T.how
        have e1 : hs[sp ((o, d) :: l) (i + 1)]? = hs1[sp l i]? := shift (sp l i)
        have e2 : hs[sp ((o, d) :: l) (i + 1) + 1]? = hs1[sp l i + 1]? := by
          have := shift (sp l i + 1)
          rw [← this]
          show hs[(if d.q then 0 else 1) + sp l i + 1]? = _
          rw [Nat.add_assoc]
        refine ⟨T.env, hh0, by rw [e1]; exact p1, ?_⟩
        rw [e2]
        rcases p2 with ⟨hg, ⟨hq, hst, hck⟩ | rest⟩ | rest
        · exact .inl ⟨hg, .inl ⟨hq, hst, hck.imp id (hcs _)⟩⟩
        · exact .inl ⟨hg, .inr rest⟩
        · exact .inr rest

section
variable {P : Program} {base nt : Nat} {call : CallA}

/-- what 'okDraw2' says -/
structure DrawOk2 (ops : Array Oper) (l : List (AOper × DM)) : Prop where
  len : l.length = ops.size
  rd : ∀ (i : Nat) (a : AOper) (d : DM), l[i]? = some (a, d) → a.rd.isSome = true
  back : ∀ (i : Nat) (o : Oper), ops[i]? = some o → ∀ e ∈ o.after, Region.binds .any e = true → e.on < i
  pre : ∀ (i : Nat) (a : AOper) (d : DM) (o : Oper), l[i]? = some (a, d) → ops[i]? = some o → ∀ j ∈ d.pre, j < i ∧ (edge o j = true ∨ ∃ (m : Nat) (b : AOper) (d' : DM), m ∈ d.pre ∧ l[m]? = some (b, d') ∧ j ∈ d'.pre)
  apart : ∀ (i j : Nat) (a b : AOper) (d d' : DM) (s : Nat), i ≠ j → l[i]? = some (a, d) → l[j]? = some (b, d') → b.dst = some s → a.dst ≠ some s
  order : ∀ (i j : Nat) (a b : AOper) (d d' : DM) (s : Nat), i ≠ j → l[i]? = some (a, d) → l[j]? = some (b, d') → b.dst = some s → s ∈ sees a → if j < i then j ∈ d.pre else i ∈ d'.pre
  spine : ∀ (i j : Nat) (a b : AOper) (d d' : DM), j < i → l[i]? = some (a, d) → l[j]? = some (b, d') → d.q = false → d'.q = false → j ∈ d.pre ∨ (twinB l j i = true ∧ ∀ o, ops[i]? = some o → isJ o = true)
  win : ∀ (i : Nat) (a : AOper) (d : DM), l[i]? = some (a, d) → d.q = true → blind a.op = true ∨ ∀ t, t ≤ sp l l.length → t = sp l i ∨ t ∈ d.ck ∨
    (∃ (j : Nat) (b : AOper) (d' : DM), j ∈ d.pre ∧ l[j]? = some (b, d') ∧ d'.q = false ∧ t ≤ sp l j) ∨
    (∃ (j : Nat) (b : AOper) (d' : DM), l[j]? = some (b, d') ∧ d'.q = false ∧ i ∈ d'.pre ∧ sp l j < t)

theorem okDraw2_spec {ops : Array Oper} {l : List (AOper × DM)} (hl : l.length = ops.size) (hk : okDraw2 ops.toList l = true) : DrawOk2 ops l := by
  unfold okDraw2 at hk
  rw [List.all_eq_true] at hk
  have main : ∀ (i : Nat) (a : AOper) (d : DM) (o : Oper), l[i]? = some (a, d) → ops[i]? = some o → a.rd.isSome = true ∧ (∀ e ∈ o.after, Region.binds .any e = true → e.on < i) ∧
      (∀ j ∈ d.pre, j < i ∧ (edge o j = true ∨ ∃ (m : Nat) (b : AOper) (d' : DM), m ∈ d.pre ∧ l[m]? = some (b, d') ∧ j ∈ d'.pre)) ∧
      (∀ (j : Nat) (b : AOper) (d' : DM), i ≠ j → l[j]? = some (b, d') → (∀ s, b.dst = some s → a.dst ≠ some s) ∧ (∀ s, b.dst = some s → s ∈ sees a → if j < i then j ∈ d.pre else i ∈ d'.pre) ∧ (j < i → d.q = false → d'.q = false → j ∈ d.pre ∨ (twinB l j i = true ∧ isJ o = true))) ∧
      (d.q = true → blind a.op = true ∨ ∀ t, t ≤ sp l l.length → t = sp l i ∨ t ∈ d.ck ∨
        (∃ (j : Nat) (b : AOper) (d' : DM), j ∈ d.pre ∧ l[j]? = some (b, d') ∧ d'.q = false ∧ t ≤ sp l j) ∨
        (∃ (j : Nat) (b : AOper) (d' : DM), l[j]? = some (b, d') ∧ d'.q = false ∧ i ∈ d'.pre ∧ sp l j < t)) := by
    intro i a d o ha ho
    have hi := lt_of_get ha
    have := hk i (List.mem_range.2 hi)
    rw [ha, Array.getElem?_toList, ho] at this
    simp only [Bool.and_eq_true, List.all_eq_true] at this
    obtain ⟨⟨⟨⟨h1, h2⟩, h3⟩, h4⟩, h5⟩ := this
    refine ⟨h1, fun e he hb => ?_, fun j hj => ?_, fun j b d' hij hb => ?_, fun hq => ?_⟩
    · have := Array.all_eq_true_iff_forall_mem.1 h2 e he
      simpa [hb] using this
    · have := h3 j hj
      simp only [decide_eq_true_eq, Bool.or_eq_true, List.any_eq_true] at this
      refine ⟨this.1, this.2.imp id fun ⟨m, hm, hc⟩ => ?_⟩
      cases hlm : l[m]? with
      | none => rw [hlm] at hc; simp at hc
      | some x =>
        obtain ⟨b, d'⟩ := x
        rw [hlm] at hc
        exact ⟨m, b, d', hm, hlm, by simpa using hc⟩
    · have := h4 j (List.mem_range.2 (lt_of_get hb))
      rw [hb] at this
      have hne : Nat.beq i j = false := by
        cases hq : Nat.beq i j with
        | false => rfl
        | true => exact absurd (Nat.eq_of_beq_eq_true hq) hij
      simp only [hne, Bool.false_or, Bool.and_eq_true, Bool.or_eq_true, bne_iff_ne, ne_eq, decide_eq_true_eq, Option.isNone_iff_eq_none] at this
      obtain ⟨⟨g1, g2⟩, g3⟩ := this
      refine ⟨fun s hs has => ?_, fun s hs hsee => ?_, fun hji hq hq' => ?_⟩
      · rcases g1 with g1 | g1
        · rw [g1] at has; simp at has
        · exact g1 (hs.trans has.symm)
      · rw [hs] at g2
        simp only [Bool.or_eq_true, Bool.not_eq_true'] at g2
        rcases g2 with g2 | g2
        · exfalso
          have : (sees a).contains s = true := by simpa using hsee
          rw [this] at g2
          simp at g2
        · split <;> rename_i hji <;> simp only [hji, if_true, if_false] at g2 <;> simpa using g2
      · rcases g3 with (((g3 | g3) | g3) | g3) | g3
        · rw [hq] at g3; simp at g3
        · rw [hq'] at g3; simp at g3
        · omega
        · exact .inl (by simpa using g3)
        · exact .inr g3
    · rw [hq] at h5
      simp only [Bool.not_true, Bool.false_or, Bool.or_eq_true, List.all_eq_true, List.mem_range] at h5
      refine h5.imp id fun h6 t ht => ?_
      have h7 := h6 t (by omega)
      rcases h7 with ((h7 | h7) | h7) | h7
      · exact .inl (Nat.eq_of_beq_eq_true h7)
      · exact .inr (.inl (by simpa using h7))
      · rw [List.any_eq_true] at h7
        obtain ⟨j, hj, hx⟩ := h7
        cases hlj : l[j]? with
        | none => rw [hlj] at hx; simp at hx
        | some x =>
          obtain ⟨b, d'⟩ := x
          rw [hlj] at hx
          simp only [Bool.and_eq_true, Bool.not_eq_true', decide_eq_true_eq] at hx
          exact .inr (.inr (.inl ⟨j, b, d', hj, hlj, hx.1, hx.2⟩))
      · rw [List.any_eq_true] at h7
        obtain ⟨j, hj, hx⟩ := h7
        cases hlj : l[j]? with
        | none => rw [hlj] at hx; simp at hx
        | some x =>
          obtain ⟨b, d'⟩ := x
          rw [hlj] at hx
          simp only [Bool.and_eq_true, Bool.not_eq_true', decide_eq_true_eq] at hx
          exact .inr (.inr (.inr ⟨j, b, d', hlj, hx.1.1, by simpa using hx.1.2, hx.2⟩))
  have get : ∀ (i : Nat) (x : AOper × DM), l[i]? = some x → ∃ o, ops[i]? = some o := fun i x hx => ⟨_, Array.getElem?_eq_getElem (by have := lt_of_get hx; omega)⟩
  refine ⟨hl, fun i a d ha => ?_, fun i o ho => ?_, fun i a d o ha ho => (main i a d o ha ho).2.2.1, fun i j a b d d' s hij ha hb hd => ?_, fun i j a b d d' s hij ha hb hd hs => ?_, fun i j a b d d' hji ha hb hq hq' => ?_, fun i a d ha hq => ?_⟩
  · obtain ⟨o, ho⟩ := get i _ ha
    exact (main i a d o ha ho).1
  · have hi : i < l.length := by rw [hl]; exact (Array.getElem?_eq_some_iff.1 ho).1
    exact (main i (l[i].1) (l[i].2) o (List.getElem?_eq_getElem hi) ho).2.1
  · obtain ⟨o, ho⟩ := get i _ ha
    exact ((main i a d o ha ho).2.2.2.1 j b d' hij hb).1 s hd
  · obtain ⟨o, ho⟩ := get i _ ha
    exact ((main i a d o ha ho).2.2.2.1 j b d' hij hb).2.1 s hd hs
  · obtain ⟨o, ho⟩ := get i _ ha
    exact (((main i a d o ha ho).2.2.2.1 j b d' (by omega) hb).2.2 hji hq hq').imp id fun ⟨h1, h2⟩ => ⟨h1, fun o' ho' => by rw [ho] at ho'; injection ho' with ho'; subst ho'; exact h2⟩
  · obtain ⟨o, ho⟩ := get i _ ha
    exact (main i a d o ha ho).2.2.2.2 hq

/-- what is surely done before a thing that is done is done -/
theorem pre_listed {ops : Array Oper} {l : List (AOper × DM)} (D : DrawOk2 ops l) {listed : Array Bool} (hcl : ∀ (j : Nat) (o : Oper), ops[j]? = some o → listed.getD j false = true → ∀ k, edge o k = true → listed.getD k false = true) :
    ∀ (i : Nat) (a : AOper) (d : DM) (o : Oper), l[i]? = some (a, d) → ops[i]? = some o → (∀ k, edge o k = true → listed.getD k false = true) → ∀ j ∈ d.pre, listed.getD j false = true := by
  intro i
  induction i using Nat.strongRecOn with
  | _ i ih =>
    intro a d o ha ho hed
    have down : ∀ (n j : Nat), i - j ≤ n → j ∈ d.pre → listed.getD j false = true := by
      intro n
      induction n with
      | zero =>
        intro j hn hj
        have := (D.pre i a d o ha ho j hj).1
        omega
      | succ n ihn =>
        intro j hn hj
        obtain ⟨hji, hw⟩ := D.pre i a d o ha ho j hj
        rcases hw with he | ⟨m, b, d', hm, hlm, hjm⟩
        · exact hed j he
        · have hmi := (D.pre i a d o ha ho m hm).1
          have hpm : ops[m]? = some (ops[m]'(by rw [← D.len]; exact lt_of_get hlm)) := Array.getElem?_eq_getElem _
          have hjm' := (D.pre m b d' _ hlm hpm j hjm).1
          have hlm' := ihn m (by omega) hm
          exact ih m hmi b d' _ hlm hpm (fun k hk => hcl m _ hpm hlm' k hk) j hjm
    intro j hj
    exact down _ j (Nat.le_refl _) hj

theorem es_get2 {l : List (AOper × DM)} {hs : List Heap} {cs : List Chk} {es : Nat → Env} {tv : Nat → TV} (ap : ∀ (i j : Nat) (a b : AOper) (d d' : DM) (s : Nat), i ≠ j → l[i]? = some (a, d) → l[j]? = some (b, d') → b.dst = some s → a.dst ≠ some s)
    (ht : ∀ (i : Nat) (ao : AOper) (d : DM), l[i]? = some (ao, d) → Told2 call l hs cs es tv i ao d) (s : Nat) : ∀ (i : Nat), i ≤ l.length →
    (∀ (j : Nat) (b : AOper) (d : DM), j < i → l[j]? = some (b, d) → b.dst = some s → (es i).get s = tv j) ∧ ((∀ (j : Nat) (b : AOper) (d : DM), j < i → l[j]? = some (b, d) → b.dst ≠ some s) → (es i).get s = (es 0).get s)
  | 0, _ => ⟨fun j b d hj => by omega, fun _ => rfl⟩
  | i + 1, hi => by
    obtain ⟨h1, h2⟩ := es_get2 ap ht s i (by omega)
    have hlt : i < l.length := by omega
    have hli : l[i]? = some (l[i].1, l[i].2) := List.getElem?_eq_getElem hlt
    have T := ht i _ _ hli
    have step : (es (i + 1)).get s = if l[i].1.dst = some s then tv i else (es i).get s := by
      rw [T.env]
      unfold put
      cases hd : l[i].1.dst with
      | none => simp
      | some d => simp only [get_cons, Option.some.injEq]
    refine ⟨fun j b d hj hb hd => ?_, fun hn => ?_⟩
    · rw [step]
      by_cases hji : j = i
      · subst hji
        rw [hli] at hb
        injection hb with hb
        injection hb with hb _
        subst hb
        rw [if_pos hd]
      · rw [if_neg (ap i j _ b _ d s (fun e => hji e.symm) hli hb hd)]
        exact h1 j b d (by omega) hb hd
    · rw [step, if_neg (hn i _ _ (by omega) hli)]
      exact h2 fun j b d hj hb => hn j b d (by omega) hb

/-- the temporaries at a stage, but for some operations' -/
def TmpX (X : Nat → Prop) (σ : Nat → Addr) (h : Heap) (w : World) (l : List (AOper × DM)) (tv : Nat → TV) (e : Env) (listed : Array Bool) (ts : Array Value) : Prop :=
  ∀ s, (∀ (j : Nat) (b : AOper) (d : DM), l[j]? = some (b, d) → ¬ X j → listed.getD j false = true → b.dst = some s → TVR σ h w (tv j) (ts.getD s undef)) ∧
    ((∀ (j : Nat) (b : AOper) (d : DM), l[j]? = some (b, d) → listed.getD j false = true → b.dst ≠ some s) → TVR σ h w (e.get s) (ts.getD s undef))

/-- a cell that the abstract heap does not tell of yet -/
def Junk (base : Nat) (σ : Nat → Addr) (h : Heap) (w0 w : World) (z : List SV) (v : Value) : Prop :=
  ∃ c arr, v = .pointer (some ⟨c, 0, none⟩) ∧ base ≤ c ∧ w0.heap.size ≤ c ∧ w.heap[c]? = some (.cells arr jT (0, 0)) ∧ scsOk z arr.toList = true ∧ ¬ Owned σ h c

section
variable {σ σ' : Nat → Addr} {h h' : Heap} {w w' : World}
theorem Junk.ext {b0 : Nat} (E : Ext σ h w σ' h' w') {w0 : World} {z : List SV} {v : Value} (J : Junk b0 σ h w0 w z v) : Junk b0 σ' h' w0 w' z v := by
  obtain ⟨c, arr, h1, h2, h3, h4, h5, h6⟩ := J
  have hlt : c < w.heap.size := (Array.getElem?_eq_some_iff.1 h4).1
  refine ⟨c, arr, h1, h2, h3, (E.far c hlt h6).trans h4, h5, fun ho => ?_⟩
  rcases E.own c ho with h7 | h7
  · exact h6 h7
  · omega

theorem SVR.snoc {x : SV} {v : Value} (hv : SVR σ h w x v) (a : Addr) (X : Blk) : SVR (upd σ h.length a) (h ++ [X]) w x v := by
  have get : ∀ {b : Nat} {B : Blk}, h[b]? = some B → (h ++ [X])[b]? = some B ∧ upd σ h.length a b = σ b := fun hB => ⟨by rw [List.getElem?_append_left (lt_of_get hB)]; exact hB, upd_other _ _ (by have := lt_of_get hB; omega)⟩
  cases x with
  | bool b => exact hv
  | int k n => exact hv
  | str l => exact hv
  | nilp => exact hv
  | nils => exact hv
  | ptr b o e =>
    obtain ⟨B, hB, h1, h2, h3⟩ := hv
    obtain ⟨g1, g2⟩ := get hB
    exact ⟨B, g1, h1, h2, fun e' => by rw [g2]; exact h3 e'⟩
  | sl b o n c =>
    obtain ⟨B, hB, h1, h2, h3⟩ := hv
    obtain ⟨g1, g2⟩ := get hB
    exact ⟨B, g1, h1, h2, fun e' => by rw [g2]; exact h3 e'⟩
  | fn f caps =>
    obtain ⟨vs, h1, h2, h3⟩ := hv
    refine ⟨vs, h1, h2, fun i p u hp hu => ?_⟩
    obtain ⟨B, hB, q1, q2⟩ := h3 i p u hp hu
    obtain ⟨g1, g2⟩ := get hB
    exact ⟨B, g1, q1, fun e' => by rw [g2]; exact q2 e'⟩

theorem AVR.snoc {x : AV} {v : Value} (hv : AVR σ h w x v) {c : Nat} {arr : Array Value} (hc : w.heap[c]? = some (.cells arr jT (0, 0))) (X : Blk) : AVR (upd σ h.length ⟨c, 0, none⟩) (h ++ [X]) w x v := by
  cases x with
  | sc x => exact SVR.snoc hv _ X
  | agg l =>
    obtain ⟨cs, h1, h2⟩ := hv
    exact ⟨cs, h1, forall2_imp (fun _ _ h => SVR.snoc h _ X) h2⟩
  | imm n l =>
    obtain ⟨c', arr', e, h1, h2, h3, h4, h5⟩ := hv
    refine ⟨c', arr', e, h1, h2, forall2_imp (fun _ _ h => SVR.snoc h _ X) h3, h4, fun j B hB hk he => ?_⟩
    rcases getElem?_snoc_lt hB with q | ⟨rfl, rfl⟩
    · rw [upd_other _ _ (by have := lt_of_get q; omega)] at he
      exact h5 j B q hk he
    · rw [upd_same] at he
      have he : c = c' := he
      subst he
      rw [hc] at h2
      injection h2 with h2
      injection h2 with _ h2 _
      exact h4 h2.symm
  | undef => exact hv

theorem TVR.snoc {x : TV} {v : Value} (hv : TVR σ h w x v) {c : Nat} {arr : Array Value} (hc : w.heap[c]? = some (.cells arr jT (0, 0))) (X : Blk) : TVR (upd σ h.length ⟨c, 0, none⟩) (h ++ [X]) w x v := by
  match x, hv with
  | [], _ => trivial
  | [x], hv => exact AVR.snoc (x := x) hv hc X
  | x :: y :: l, hv =>
    obtain ⟨vs, h1, h2⟩ := hv
    exact ⟨vs, h1, forall2_imp (fun _ _ h => AVR.snoc h hc X) h2⟩

/-- such a cell is told of now -/
theorem HR.adopt {b0 : Nat} (H : HR b0 σ h w) {c : Nat} {arr : Array Value} (h2 : b0 ≤ c) (h4 : w.heap[c]? = some (.cells arr jT (0, 0))) {z : List SV} (h5 : scsOk z arr.toList = true) (h6 : ¬ Owned σ h c) :
    HR b0 (upd σ h.length ⟨c, 0, none⟩) (h ++ [⟨.var, z⟩]) w := by
  refine ⟨H.size, fun j C hC => ?_, fun i j C D hC hD hkC hkD he => ?_⟩
  · rcases getElem?_snoc_lt hC with q | ⟨rfl, rfl⟩
    · have hj : j ≠ h.length := by have := lt_of_get q; omega
      have hb := H.blk j C q
      unfold BlkR at hb ⊢
      split
      · rename_i hk
        simp only [hk] at hb
        rw [upd_other _ _ hj]
        refine ⟨hb.1, fun i x hx => ?_⟩
        obtain ⟨v, hv, hr⟩ := hb.2 i x hx
        exact ⟨v, hv, SVR.snoc hr _ _⟩
      · rename_i k hk
        obtain ⟨c', arr', e, fr, q1, q2, q3, q4, q5, q6, q7⟩ := H.open_own q (fun e => hk e)
        refine ⟨c', arr', e, fr, by rw [upd_other _ _ hj]; exact q1, q2, q3, q4, q5, q6, fun i x hx => ?_⟩
        obtain ⟨v, hv, hr⟩ := q7 i x hx
        exact ⟨v, hv, SVR.snoc hr _ _⟩
    · have ha := scsOk_R (σ := σ) (h := h) (w := w) h5
      have hl := All2.length ha
      have key : ∃ c' arr' e fr, upd σ h.length ⟨c, 0, none⟩ h.length = ⟨c', 0, none⟩ ∧ b0 ≤ c' ∧ w.heap[c']? = some (.cells arr' e fr) ∧ thawed fr arr'.size ∧ z.length ≤ arr'.size ∧
          (∀ e' sz, BK.var = .row e' sz → e = e' ∧ fr = (0, 0) ∧ 0 < sz) ∧ ∀ (i : Nat) (x : SV), z[i]? = some x → ∃ v, arr'[i]? = some v ∧ SVR (upd σ h.length ⟨c, 0, none⟩) (h ++ [⟨.var, z⟩]) w x v := by
        refine ⟨c, arr, jT, (0, 0), upd_same _ _ _, h2, h4, ⟨Nat.le_refl _, fun i _ => by simp⟩, by simp at hl; omega, (fun e' sz he => by cases he), fun i x hx => ?_⟩
        obtain ⟨v, hv, hr⟩ := All2.get ha i x hx
        exact ⟨v, by simpa using hv, SVR.snoc hr _ _⟩
      exact key
  · rcases getElem?_snoc_lt hC with q | ⟨rfl, rfl⟩ <;> rcases getElem?_snoc_lt hD with r | ⟨rfl, rfl⟩
    · rw [upd_other _ _ (by have := lt_of_get q; omega), upd_other _ _ (by have := lt_of_get r; omega)] at he
      exact H.inj i j C D q r hkC hkD he
    · rw [upd_other _ _ (by have := lt_of_get q; omega), upd_same] at he
      exact absurd ⟨i, C, q, hkC, he⟩ h6
    · rw [upd_same, upd_other _ _ (by have := lt_of_get r; omega)] at he
      exact absurd ⟨j, D, r, hkD, he.symm⟩ h6
    · rfl

theorem Ext.adopt {σ0 : Nat → Addr} {h0 : Heap} {w0 : World} (E : Ext σ0 h0 w0 σ h w) {c : Nat} (hc : w0.heap.size ≤ c) (X : Blk) : Ext σ0 h0 w0 (upd σ h.length ⟨c, 0, none⟩) (h ++ [X]) w :=
  ⟨E.os, E.tape, E.output, E.size, E.far, E.rows, fun j B hB => by
    obtain ⟨B', hB', hk, hl, hs⟩ := E.grow j B hB
    exact ⟨B', by rw [List.getElem?_append_left (lt_of_get hB')]; exact hB', hk, hl, fun e => by rw [upd_other _ _ (by have := lt_of_get hB'; omega)]; exact hs e⟩,
  fun c' ⟨j, B, hB, hk, he⟩ => by
    rcases getElem?_snoc_lt hB with q | ⟨rfl, rfl⟩
    · rw [upd_other _ _ (by have := lt_of_get q; omega)] at he
      exact E.own c' ⟨j, B, q, hk, he⟩
    · rw [upd_same] at he
      have he : c = c' := he
      subst he
      exact .inr hc⟩
end

/-- two allocations in no order -/
structure Twin (l : List (AOper × DM)) (p q : Nat) : Prop where
  ex : ∃ a d b d' z z' s, l[p]? = some (a, d) ∧ l[q]? = some (b, d') ∧ a.op = .alloc z ∧ b.op = .alloc z' ∧ a.guard = none ∧ b.guard = none ∧ d.q = false ∧ d'.q = false ∧ b.dst = some s
  sp : sp l q = Go.Abs.sp l p + 1
  lt : p < q
  pre : ∀ (k : Nat) (c : AOper) (dk : DM), l[k]? = some (c, dk) → q ∈ dk.pre → p ∈ dk.pre
theorem twinB_spec {l : List (AOper × DM)} {p q : Nat} (h : twinB l p q = true) : Twin l p q := by
  unfold twinB at h
  split at h
  · rename_i a d b d' hp hq
    simp only [Bool.and_eq_true, Bool.not_eq_true', decide_eq_true_eq, Option.isNone_iff_eq_none, List.all_eq_true] at h
    obtain ⟨⟨⟨⟨⟨⟨⟨⟨⟨h1, h2⟩, h3⟩, h4⟩, h5⟩, h6⟩, h7⟩, h8⟩, h9⟩, h10⟩ := h
    obtain ⟨z, hz⟩ : ∃ z, a.op = .alloc z := by
      unfold isAl at h1
      split at h1
      · rename_i z hz; exact ⟨z, hz⟩
      · simp at h1
    obtain ⟨z', hz'⟩ : ∃ z, b.op = .alloc z := by
      unfold isAl at h2
      split at h2
      · rename_i z hz; exact ⟨z, hz⟩
      · simp at h2
    obtain ⟨s, hs⟩ := Option.isSome_iff_exists.1 h9
    refine ⟨⟨a, d, b, d', z, z', s, hp, hq, hz, hz', h3, h4, h5, h6, hs⟩, Nat.eq_of_beq_eq_true h7, h8, fun k c dk hk hin => ?_⟩
    have := h10 (c, dk) (List.mem_of_getElem? hk)
    simp only [Bool.or_eq_true, Bool.not_eq_true'] at this
    rcases this with h | h
    · exfalso
      have : dk.pre.contains q = true := by simpa using hin
      rw [this] at h
      simp at h
    · simpa using h
  · simp at h

/-- the state: as the stage says, or with the second twin's cell ahead of the first's -/
def Kind2 (base : Nat) (l : List (AOper × DM)) (tv : Nat → TV) (e : Env) (w0 : World) (listed : Array Bool) (ts : Array Value) (t : Nat) (h : Heap) (σ : Nat → Addr) (w : World) : Prop :=
  (TmpX (fun _ => False) σ h w l tv e listed ts ∧ ∀ (j : Nat) (b : AOper) (d : DM), l[j]? = some (b, d) → d.q = false → (listed.getD j false = true ↔ sp l j < t)) ∨
  ∃ p q b d' z, Twin l p q ∧ l[q]? = some (b, d') ∧ b.op = .alloc z ∧ t = sp l p ∧ listed.getD p false = false ∧ listed.getD q false = true ∧ TmpX (· = q) σ h w l tv e listed ts ∧
    (∀ (j : Nat) (b : AOper) (d : DM), l[j]? = some (b, d) → d.q = false → j ≠ q → (listed.getD j false = true ↔ sp l j < t)) ∧ ∀ s, b.dst = some s → Junk base σ h w0 w z (ts.getD s undef)

structure Mid2 (base nt : Nat) (ops : Array Oper) (l : List (AOper × DM)) (hs : List Heap) (tv : Nat → TV) (e : Env) (σ0 : Nat → Addr) (h0 : Heap) (w0 : World) (listed : Array Bool) (a : Act) (w : World) : Prop where
  ex : ∃ (t : Nat) (h : Heap) (σ : Nat → Addr), hs[t]? = some h ∧ t ≤ sp l l.length ∧ HR base σ h w ∧ Ext σ0 h0 w0 σ h w ∧ Kind2 base l tv e w0 listed a.tmps t h σ w
  defers : a.defers = []
  size : nt ≤ a.tmps.size
  lsize : listed.size = l.length
  closed : ∀ (j : Nat) (o : Oper), ops[j]? = some o → listed.getD j false = true → ∀ k, edge o k = true → listed.getD k false = true

theorem TmpX.put {X X' : Nat → Prop} (hXX : ∀ j, X j → X' j) {l : List (AOper × DM)} (ap : ∀ (i j : Nat) (a b : AOper) (d d' : DM) (s : Nat), i ≠ j → l[i]? = some (a, d) → l[j]? = some (b, d') → b.dst = some s → a.dst ≠ some s)
    {σ σ' : Nat → Addr} {h h1 : Heap} {w w' : World} {tv : Nat → TV} {e : Env} {listed : Array Bool} {ts ts' : Array Value} {i : Nat} {ao : AOper} {d : DM} (hao : l[i]? = some (ao, d)) (hi : i < listed.size) (T : TmpX X σ h w l tv e listed ts)
    (he : ∀ x v, TVR σ h w x v → TVR σ' h1 w' x v) {v : Value} (tmp : ∀ s, ts'.getD s undef = if ao.dst = some s then v else ts.getD s undef) (hv : ¬ X' i → TVR σ' h1 w' (tv i) v) : TmpX X' σ' h1 w' l tv e (listed.setIfInBounds i true) ts' := fun s => by
  rw [tmp s]
  refine ⟨fun j b d' hb hx hj hbd => ?_, fun hn => ?_⟩
  · rw [set_getD listed i j hi] at hj
    by_cases hij : i = j
    · subst hij
      rw [hao] at hb
      injection hb with hb
      injection hb with hb _
      subst hb
      rw [if_pos hbd]
      exact hv hx
    · rw [if_neg hij] at hj
      rw [if_neg (ap i j ao b d d' s hij hao hb hbd)]
      exact he _ _ ((T s).1 j b d' hb (fun h => hx (hXX j h)) hj hbd)
  · rw [if_neg (hn i ao d hao (by rw [set_getD listed i i hi]; simp))]
    refine he _ _ ((T s).2 fun j b d' hb hj hbd => hn j b d' hb ?_ hbd)
    rw [set_getD listed i j hi]
    split
    · rfl
    · exact hj

theorem all_listed2 {ops : Array Oper} {l : List (AOper × DM)} (D : DrawOk2 ops l) {listed : Array Bool} (hs : listed.size = ops.size) (hr : Region.ready .any ops listed = []) : ∀ i, i < ops.size → listed.getD i false = true := by
  intro i
  induction i using Nat.strongRecOn with
  | _ i ih =>
    intro hi
    cases hb : listed.getD i false with
    | true => rfl
    | false =>
      exfalso
      have : i ∈ Region.ready .any ops listed := (ready_iff hs).2 ⟨ops[i], Array.getElem?_eq_getElem hi, hb, fun e he hbe => by
        have hlt := D.back i _ (Array.getElem?_eq_getElem hi) e he hbe
        exact ih e.on hlt (by omega)⟩
      rw [hr] at this
      simp at this

theorem any_sim2 (hc : CallOk P call) {ops : Array Oper} {l : List (AOper × DM)} (D : DrawOk2 ops l) (hk : okRow P nt ops (l.map (·.1)) ops.toList = true) {hs : List Heap} {cs : List Chk} {es : Nat → Env} {tv : Nat → TV} (ht : ∀ (i : Nat) (ao : AOper) (d : DM), l[i]? = some (ao, d) → Told2 call l hs cs es tv i ao d) (hcs : ∀ c ∈ cs, chkOk call hs c = true)
    {h' : Heap} (hend : hs[sp l l.length]? = some h') {Q : Exit → Act → World → Prop} {σ0 : Nat → Addr} {h0 : Heap} {w0 : World} (hQ : ∀ σ' w' a', St base σ' h' w' (es l.length) nt a' → Ext σ0 h0 w0 σ' h' w' → Q .normal a' w') : ∀ (fuel : Nat) (listed : Array Bool) (a : Act) (w : World), unl listed ops.size = fuel → Mid2 base nt ops l hs tv (es 0) σ0 h0 w0 listed a w →
    wpAny P .any ops Q fuel listed a w := by
  have fin : ∀ (listed : Array Bool) (a : Act) (w : World), (∀ i, i < ops.size → listed.getD i false = true) → Mid2 base nt ops l hs tv (es 0) σ0 h0 w0 listed a w → Q .normal a w := by
    intro listed a w hall M
    obtain ⟨t, h, σ, hh, htl, H, E, K⟩ := M.ex
    rcases K with ⟨hT, hst⟩ | ⟨p, q, b, d', z, tw, _, _, _, hp, _⟩
    · have : t = sp l l.length := by
        rcases Nat.lt_or_ge t (sp l l.length) with hlt | hge
        · obtain ⟨j, x, hj, hx, hq, hsp⟩ := sp_hit (Nat.le_refl _) hlt
          have := (hst j x.1 x.2 hx hq).1 (hall j (by rw [← D.len]; exact hj))
          omega
        · omega
      subst this
      rw [hend] at hh
      injection hh with hh
      subst hh
      refine hQ σ w a ⟨H, fun s => ?_, M.defers, M.size⟩ E
      obtain ⟨g1, g2⟩ := es_get2 D.apart ht s l.length (Nat.le_refl _)
      by_cases hex : ∃ (j : Nat) (b : AOper) (d : DM), l[j]? = some (b, d) ∧ b.dst = some s
      · obtain ⟨j, b, d, hb, hd⟩ := hex
        rw [g1 j b d (lt_of_get hb) hb hd]
        exact (hT s).1 j b d hb (fun h => h) (hall j (by rw [← D.len]; exact lt_of_get hb)) hd
      · rw [g2 fun j b d _ hb hd => hex ⟨j, b, d, hb, hd⟩]
        exact (hT s).2 fun j b d hb _ hd => hex ⟨j, b, d, hb, hd⟩
    · obtain ⟨a', d, b', d'', z1, z2, s, h1, h2, _⟩ := tw.ex
      rw [hall p (by rw [← D.len]; exact lt_of_get h1)] at hp
      simp at hp
  intro fuel
  induction fuel with
  | zero =>
    intro listed a w hf M
    have hall := unl_zero hf
    refine ⟨?_, fin listed a w hall M⟩
    rw [List.eq_nil_iff_forall_not_mem]
    intro i hi
    obtain ⟨o, ho, h1, _⟩ := (ready_iff (by rw [M.lsize, D.len])).1 hi
    rw [hall i (Array.getElem?_eq_some_iff.1 ho).1] at h1
    simp at h1
  | succ fuel ih =>
    intro listed a w hf M
    have hsz : listed.size = ops.size := by rw [M.lsize, D.len]
    refine ⟨fun hr => fin listed a w (all_listed2 D hsz hr) M, fun i hi => ?_⟩
    obtain ⟨o, ho, hl, hedges⟩ := (ready_iff hsz).1 hi
    have hiops := (Array.getElem?_eq_some_iff.1 ho).1
    have hil : i < l.length := by rw [D.len]; exact hiops
    obtain ⟨ao, d, hao⟩ : ∃ ao d, l[i]? = some (ao, d) := ⟨l[i].1, l[i].2, List.getElem?_eq_getElem hil⟩
    obtain ⟨hrl, hrow⟩ := okRow_get hk
    have hok := hrow i ao o (by rw [List.getElem?_map, hao]; rfl) (by rw [Array.getElem?_toList]; exact ho)
    obtain ⟨hdst, hdlt, hg⟩ := okAO_dst hok
    have T := ht i ao d hao
    obtain ⟨t, h, σ, hh, htl, H, E, K⟩ := M.ex
    have hed : ∀ k, edge o k = true → listed.getD k false = true := fun k hk' => by
      obtain ⟨e, he, hb, hon⟩ := edge_mem.1 hk'
      rw [← hon]; exact hedges e he hb
    have hpre := pre_listed D M.closed i ao d o hao ho hed
    have hpre' : ∀ (j : Nat) (b : AOper) (d' : DM), l[j]? = some (b, d') → i ∈ d'.pre → listed.getD j false = false := fun j b d' hb hij => by
      cases hq : listed.getD j false with
      | false => rfl
      | true =>
        have hp : ops[j]? = some (ops[j]'(by rw [← D.len]; exact lt_of_get hb)) := Array.getElem?_eq_getElem _
        have := pre_listed D M.closed j b d' _ hb hp (fun k hk' => M.closed j _ hp hq k hk') i hij
        rw [hl] at this
        simp at this
    have hils : i < listed.size := by omega
    -- which operations' temporaries are not told of
    obtain ⟨X, hTX, hXpre⟩ : ∃ X : Nat → Prop, TmpX X σ h w l tv (es 0) listed a.tmps ∧ ∀ j ∈ d.pre, ¬ X j := by
      rcases K with ⟨hT, _⟩ | ⟨p, q, b, d', z, tw, hq, _, _, hp, _, hT, _⟩
      · exact ⟨_, hT, fun _ _ h => h⟩
      · refine ⟨_, hT, fun j hj e => ?_⟩
        subst e
        have := hpre p (tw.pre i ao d hao hj)
        rw [hp] at this
        simp at this
    -- what the operation sees reads as in the text's order
    have seen : ∀ s, s ∈ sees ao → TVR σ h w ((es i).get s) (a.tmps.getD s undef) := fun s hsee => by
      obtain ⟨g1, g2⟩ := es_get2 D.apart ht s i (by omega)
      by_cases hex : ∃ (j : Nat) (b : AOper) (d' : DM), l[j]? = some (b, d') ∧ b.dst = some s ∧ j ≠ i
      · obtain ⟨j, b, d', hb, hd, hji⟩ := hex
        have ho' := D.order i j ao b d d' s (fun e => hji e.symm) hao hb hd hsee
        split at ho'
        · rename_i hlt
          rw [g1 j b d' hlt hb hd]
          exact (hTX s).1 j b d' hb (hXpre j ho') (hpre j ho') hd
        · rename_i hge
          have hjn := hpre' j b d' hb ho'
          have only : ∀ (k : Nat) (c : AOper) (d'' : DM), l[k]? = some (c, d'') → c.dst = some s → k = j := fun k c d'' hc hcd => by
            by_cases hkj : k = j
            · exact hkj
            · exact absurd hcd (D.apart k j c b d'' d' s hkj hc hb hd)
          rw [g2 fun k c d'' hk hc hcd => by have := only k c d'' hc hcd; omega]
          exact (hTX s).2 fun k c d'' hc hkl hcd => by rw [only k c d'' hc hcd, hjn] at hkl; simp at hkl
      · have none' : ∀ (k : Nat) (c : AOper) (d'' : DM), l[k]? = some (c, d'') → c.dst = some s → k = i := fun k c d'' hc hcd => by
          by_cases hki : k = i
          · exact hki
          · exact absurd ⟨k, c, d'', hc, hcd, hki⟩ hex
        rw [g2 fun k c d'' hk hc hcd => by have := none' k c d'' hc hcd; omega]
        exact (hTX s).2 fun k c d'' hc hkl hcd => by rw [none' k c d'' hc hcd, hl] at hkl; simp at hkl
    -- the environment that it is given
    obtain ⟨ks, hks⟩ := Option.isSome_iff_exists.1 (D.rd i ao d hao)
    have henv : EnvR σ h w (envOf ao (es i)) a.tmps := fun s => by
      unfold envOf
      rw [hks]
      simp only
      by_cases hin : s ∈ ks
      · have hsee : s ∈ sees ao := by unfold sees; rw [hks]; exact List.mem_append_left _ hin
        rcases get_keep ks (es i) s with hgk | hgk
        · rw [hgk]; exact seen s hsee
        · rw [hgk]; trivial
      · have : (keep ks (es i)).get s = [] := by
          clear hks hsz
          induction ks with
          | nil => rfl
          | cons k ks ihk =>
            have e1 : keep (k :: ks) (es i) = (k, (es i).get k) :: keep ks (es i) := rfl
            rw [e1, get_cons, if_neg (fun e => hin (by simp [e]))]
            exact ihk (fun hh => hin (by simp [hh]))
        rw [this]
        trivial
    have tmp : ∀ v s, (a.put o.dst v).tmps.getD s undef = if ao.dst = some s then v else a.tmps.getD s undef := fun v s => by
      rw [← hdst]
      cases hd : ao.dst with
      | none => simp [Act.put]
      | some dd =>
        have hdl : dd < a.tmps.size := Nat.lt_of_lt_of_le (hdlt dd hd) M.size
        show (a.tmps.setIfInBounds dd v).getD s undef = _
        by_cases hds : dd = s
        · subst hds; simp [Array.getD, hdl]
        · rw [if_neg (by simpa using hds)]
          simp only [Array.getD_eq_getD_getElem?]
          rw [Array.getElem?_setIfInBounds_ne hds]
    -- on
    have go : ∀ (t' : Nat) (h1 : Heap) σ' w' v, hs[t']? = some h1 → t' ≤ sp l l.length → HR base σ' h1 w' → Ext σ0 h0 w0 σ' h1 w' → Kind2 base l tv (es 0) w0 (listed.setIfInBounds i true) (a.put o.dst v).tmps t' h1 σ' w' → wpAny P .any ops Q fuel (listed.setIfInBounds i true) (a.put o.dst v) w' := fun t' h1 σ' w' v hh1 ht' H' E' K' => by
      have hu := unl_step hsz hiops hl
      refine ih _ _ _ (by omega) ⟨⟨t', h1, σ', hh1, ht', H', E', K'⟩, by rw [put_defers']; exact M.defers, by rw [put_size']; exact M.size, by simp [M.lsize], fun j p hp hj k hek => ?_⟩
      rw [set_getD listed i j (by omega)] at hj
      rw [set_getD listed i k (by omega)]
      by_cases hik : i = k
      · rw [if_pos hik]
      · rw [if_neg hik]
        by_cases hij : i = j
        · subst hij
          rw [ho] at hp
          injection hp with hp
          subst hp
          exact hed k hek
        · rw [if_neg hij] at hj
          exact M.closed j p hp hj k hek
    -- the guard
    have genv : ∀ b, guardOk ao.guard (es i) = some b → Region.wanted o (yielded ops a.tmps) = b := fun b hb => by
      have hgE : EnvR σ h w (keep (match ao.guard with | some (s, _) => [s] | none => []) (es i)) a.tmps := fun s => by
        cases hgd : ao.guard with
        | none => exact trivial
        | some sb =>
          obtain ⟨s0, b0⟩ := sb
          simp only
          have e1 : keep [s0] (es i) = [(s0, (es i).get s0)] := rfl
          rw [e1, get_cons]
          by_cases h0 : s0 = s
          · subst h0
            rw [if_pos rfl]
            exact seen s0 (by unfold sees; rw [hgd]; exact List.mem_append_right _ (by simp))
          · rw [if_neg h0]; trivial
      refine guard_wanted hg hgE ?_
      cases hgd : ao.guard with
      | none => rw [hgd] at hb; exact hb
      | some sb =>
        obtain ⟨s0, b0⟩ := sb
        rw [hgd] at hb
        simp only [guardOk] at hb ⊢
        have e1 : keep [s0] (es i) = [(s0, (es i).get s0)] := rfl
        rw [e1, get_cons, if_pos rfl]
        exact hb
    have S : St base σ h w [] nt a := ⟨H, fun s => trivial, M.defers, M.size⟩
    -- two loud things do not stand at one place
    have one : ∀ (j k : Nat) (b c : AOper) (d1 d2 : DM), l[j]? = some (b, d1) → l[k]? = some (c, d2) → d1.q = false → d2.q = false → sp l j = sp l k → j = k := fun j k b c d1 d2 hj hk' h1 h2 he => by
      rcases Nat.lt_trichotomy j k with hlt | h | hgt
      · have := sp_lt hj h1 hlt (Nat.le_of_lt (lt_of_get hk')); omega
      · exact h
      · have := sp_lt hk' h2 hgt (Nat.le_of_lt (lt_of_get hj)); omega
    obtain ⟨hh0, p1, p2⟩ := T.how
    -- a quiet operation does at this stage what it does at its own
    have quiet : (∀ (j : Nat) (b : AOper) (d' : DM), l[j]? = some (b, d') → d'.q = false → j ∈ d.pre → sp l j < t) → (∀ (j : Nat) (b : AOper) (d' : DM), l[j]? = some (b, d') → d'.q = false → sp l j < t → listed.getD j false = true) →
        d.q = true → stepC call ao.op (envOf ao (es i)) hh0 = some (tv i, hh0) → (d.ck = [] ∨ (⟨d.ck, ao.op, envOf ao (es i), tv i⟩ : Chk) ∈ cs) → stepC call ao.op (envOf ao (es i)) h = some (tv i, h) := fun lo1 lo2 hq hst0 hck => by
      rcases D.win i ao d hao hq with hb | hw
      · exact blind_step hb hst0
      · rcases hw t htl with he | hin | ⟨j, b, d', hj, hb, hq', hle⟩ | ⟨j, b, d', hb, hq', hij, hlt⟩
        · rw [← he, hh] at p1
          injection p1 with p1
          subst p1
          exact hst0
        · rcases hck with hck | hck
          · rw [hck] at hin; simp at hin
          · have := hcs _ hck
            unfold chkOk at this
            rw [List.all_eq_true] at this
            have := this t hin
            simp only [hh] at this
            split at this
            · rename_i tv' hx hstx
              simp only [Bool.and_eq_true, Bool.or_eq_true] at this
              have e1 := tvSame_eq this.1
              have e2 : hx = h := by
                rcases this.2 with h3 | h3
                · exact quiet_heap h3 hstx
                · exact hpSame_eq h3
              rw [hstx, e1, e2]
            · simp at this
        · have := lo1 j b d' hb hq' hj
          omega
        · have h3 := hpre' j b d' hb hij
          rw [lo2 j b d' hb hq' hlt] at h3
          simp at h3
    unfold wpOp
    rw [ho]
    simp only
    rcases K with ⟨hT, hst⟩ | ⟨p, q, bq, dq, zq, tw, hlq, hopq, htp, hp, hql, hT, hst, hJ⟩
    · -- as the stage says
      have behind : ∀ (t' : Nat) (h1 : Heap) σ' w' v, hs[t']? = some h1 → t' ≤ sp l l.length → ((d.q = true ∧ t' = t) ∨ (d.q = false ∧ sp l i = t ∧ t' = t + 1)) → HR base σ' h1 w' → Ext σ h w σ' h1 w' → TVR σ' h1 w' (tv i) v → wpAny P .any ops Q fuel (listed.setIfInBounds i true) (a.put o.dst v) w' := fun t' h1 σ' w' v hh1 ht' hstage H' E' hv => by
        refine go t' h1 σ' w' v hh1 ht' H' (E.trans E') (.inl ⟨hT.put (fun _ h => h) D.apart hao hils (fun x v h => TVR.ext H E' h) (tmp v) fun _ => hv, fun j b d' hb hq => ?_⟩)
        rw [set_getD listed i j (by omega)]
        by_cases hij : i = j
        · subst hij
          rw [hao] at hb
          injection hb with hb
          injection hb with _ hb
          subst hb
          rcases hstage with ⟨hq', _⟩ | ⟨_, hsp, rfl⟩
          · rw [hq] at hq'; simp at hq'
          · simp; omega
        · rw [if_neg hij, hst j b d' hb hq]
          rcases hstage with ⟨_, rfl⟩ | ⟨hq', hsp, rfl⟩
          · exact Iff.rfl
          · have hne : sp l j ≠ t := fun he => hij (one i j ao b d d' hao hb hq' hq (by omega))
            omega
      -- the stage of a loud one
      have loud : d.q = false → sp l i = t ∨ ∃ p, Twin l p i ∧ isJ o = true ∧ sp l p = t := fun hq => by
        have h1 : ¬ sp l i < t := fun hlt => by
          have := (hst i ao d hao hq).2 hlt
          rw [hl] at this
          simp at this
        rcases Nat.lt_or_ge t (sp l i) with hlt | hge
        · obtain ⟨j, x, hj, hx, hq', hsp⟩ := sp_hit (by omega) hlt
          rcases D.spine i j ao x.1 d x.2 hj hao hx hq hq' with hin | ⟨h2, h3⟩
          · have := (hst j x.1 x.2 hx hq').1 (hpre j hin)
            omega
          · exact .inr ⟨j, twinB_spec h2, h3 o ho, hsp⟩
        · exact .inl (by omega)
      rcases p2 with ⟨hgo, hstep⟩ | ⟨hgo, hnil, hskip⟩
      · rw [if_pos (genv true hgo)]
        refine .inl ?_
        rcases hstep with ⟨hq, hst0, hck⟩ | ⟨hq, h1, hh1, hst0⟩
        · have hstt := quiet (fun j b d' hb hq' hj => (hst j b d' hb hq').1 (hpre j hj)) (fun j b d' hb hq' hlt => (hst j b d' hb hq').2 hlt) hq hst0 hck
          exact op_sim hc S hok henv hstt fun σ' w' v S' E' hv => behind t h σ' w' v hh htl (.inl ⟨hq, rfl⟩) S'.hr E' hv
        · rcases loud hq with hsp | ⟨p, tw, hjo, hsp⟩
          · rw [hsp, hh] at p1
            injection p1 with p1
            subst p1
            rw [hsp] at hh1
            have hlt := sp_lt hao hq hil (Nat.le_refl _)
            exact op_sim hc S hok henv hst0 fun σ' w' v S' E' hv => behind (t + 1) h1 σ' w' v hh1 (by omega) (.inr ⟨hq, hsp, rfl⟩) S'.hr E' hv
          · -- the second twin ahead of the first
            obtain ⟨ap', dp, b', d'', z1, z2, s, hlp, hli, hop1, hop2, hg1, hg2, hq1, hq2, hds⟩ := tw.ex
            rw [hao] at hli
            injection hli with hli
            injection hli with e1 e2
            subst e1 e2
            unfold okAO at hok
            simp only [Bool.and_eq_true, beq_iff_eq, Bool.or_eq_true] at hok
            obtain ⟨_, hop⟩ := hok
            rw [hop2] at hop
            obtain ⟨zt, zv, zi, hot, hz1, hz2, hz3⟩ : ∃ (zt : TypeId) (zv : Value) (zi : TypeInfo), o.op = .alloc zt ∧ P.info? zt = some zi ∧ zi.zero = some zv ∧ scsOk z2 zv.cells.toList = true := by
              have key : ∃ zt, o.op = .alloc zt ∧ zeroOk P zt z2 = true := by
                rcases hop with hop | hop
                · simp [okCall] at hop
                · cases hoo : o.op <;> simp [okOp, hoo] at hop
                  exact ⟨_, rfl, hop⟩
              obtain ⟨zt, k1, k2⟩ := key
              obtain ⟨i', v', q1, q2, q3⟩ := zeroOk_spec k2
              exact ⟨zt, v', i', k1, q1, q2, q3⟩
            have hjt : zt = jT := by
              unfold isJ at hjo
              rw [hot] at hjo
              exact Nat.eq_of_beq_eq_true hjo
            subst hjt
            have hrun : (execOp a.eval o).run P w = .ok (.value (.pointer (some ⟨w.heap.size, 0, none⟩))) (w.alloc (.cells zv.cells jT)) := by
              simp [execOp, hot, Instr.alloc, zeroValue, typeInfo, hz1, hz2, newVar, newRow]
            unfold Oper.wp
            rw [hrun]
            have HJ := H.junk (.cells zv.cells jT)
            have EJ := Ext.junk H (.cells zv.cells jT)
            refine go t h σ _ _ hh htl HJ (E.trans EJ) (.inr ⟨p, i, ao, d, z2, tw, hao, hop2, hsp.symm, ?_, ?_, hT.put (fun _ h => h.elim) D.apart hao hils (fun x v h => TVR.ext H EJ h) (tmp _) fun h => absurd rfl h, fun j b d' hb hq' hji => ?_, fun s' hs' => ?_⟩)
            · rw [set_getD listed i p (by omega), if_neg (by have := tw.lt; omega)]
              cases hpl : listed.getD p false with
              | false => rfl
              | true => have := (hst p ap' dp hlp hq1).1 hpl; omega
            · rw [set_getD listed i i (by omega)]; simp
            · rw [set_getD listed i j (by omega), if_neg (fun e => hji e.symm)]
              exact hst j b d' hb hq'
            · rw [tmp _ s', if_pos hs']
              refine ⟨w.heap.size, zv.cells, rfl, H.size, E.size, heap_alloc_new w _, hz3, fun ho' => ?_⟩
              have := (H.own_lt ho').2
              omega
      · rw [if_neg (by rw [genv false hgo]; simp)]
        cases hq : d.q with
        | true => exact behind t h σ w undef hh htl (.inl ⟨hq, rfl⟩) H (Ext.refl _ _ _) (by rw [hnil]; rfl)
        | false =>
          rcases loud hq with hsp | ⟨p, tw, _, _⟩
          · have hh1 := hskip hq
            rw [hsp, hh] at p1
            injection p1 with p1
            subst p1
            rw [hsp] at hh1
            have hlt := sp_lt hao hq hil (Nat.le_refl _)
            exact behind (t + 1) h σ w undef hh1 (by omega) (.inr ⟨hq, hsp, rfl⟩) H (Ext.refl _ _ _) (by rw [hnil]; rfl)
          · obtain ⟨ap', dp, b', d'', z1, z2, s, hlp, hli, hop1, hop2, hg1, hg2, _⟩ := tw.ex
            rw [hao] at hli
            injection hli with hli
            injection hli with e1 e2
            subst e1 e2
            rw [hg2] at hgo
            simp [guardOk] at hgo
    · -- the second twin's cell lies there, the first's does not
      obtain ⟨ap', dp, b', d'', z1, z2, sq, hlp, hlq', hop1, hop2, hg1, hg2, hq1, hq2, hds⟩ := tw.ex
      rw [hlq] at hlq'
      injection hlq' with hlq'
      injection hlq' with e1 e2
      subst e1 e2
      have hiq : i ≠ q := fun e => by rw [e, hql] at hl; simp at hl
      have qpre : ∀ (j : Nat), j ∈ d.pre → j ≠ q := fun j hj e => by
        subst e
        have := hpre p (tw.pre i ao d hao hj)
        rw [hp] at this
        simp at this
      -- a loud one is the first twin
      have loud : d.q = false → i = p := fun hq => by
        by_cases hip : i = p
        · exact hip
        · exfalso
          have h1 : ¬ sp l i < t := fun hlt => by
            have := (hst i ao d hao hq hiq).2 hlt
            rw [hl] at this
            simp at this
          have hne : sp l i ≠ sp l p := fun he => hip (one i p ao ap' d dp hao hlp hq hq1 he)
          have hpi : p < i := by
            rcases Nat.lt_or_ge p i with h | h
            · exact h
            · have := sp_mono (l := l) (i := i) (j := p) h (Nat.le_of_lt (lt_of_get hlp)); omega
          rcases D.spine i p ao ap' d dp hpi hao hlp hq hq1 with hin | ⟨h2, _⟩
          · have := hpre p hin
            rw [hp] at this
            simp at this
          · have := (twinB_spec h2).sp
            have := tw.sp
            exact hiq (one i q ao bq d dq hao hlq hq hq2 (by omega))
      have still : ∀ (h1 : Heap) σ' w' v, h1 = h → d.q = true → HR base σ' h1 w' → Ext σ h w σ' h1 w' → TVR σ' h1 w' (tv i) v → wpAny P .any ops Q fuel (listed.setIfInBounds i true) (a.put o.dst v) w' := fun h1 σ' w' v he hq H' E' hv => by
        subst he
        refine go t h1 σ' w' v hh htl H' (E.trans E') (.inr ⟨p, q, bq, dq, zq, tw, hlq, hopq, htp, ?_, ?_, hT.put (fun _ h => h) D.apart hao hils (fun x v h => TVR.ext H E' h) (tmp v) fun _ => hv, fun j b d' hb hq' hjq => ?_, fun s' hs' => ?_⟩)
        · rw [set_getD listed i p (by omega), if_neg (fun e => by subst e; rw [hao] at hlp; injection hlp with hlp; injection hlp with _ e2; subst e2; rw [hq] at hq1; simp at hq1)]
          exact hp
        · rw [set_getD listed i q (by omega), if_neg hiq]
          exact hql
        · rw [set_getD listed i j (by omega)]
          by_cases hij : i = j
          · subst hij
            rw [hao] at hb
            injection hb with hb
            injection hb with _ hb
            subst hb
            rw [hq] at hq'
            simp at hq'
          · rw [if_neg hij]
            exact hst j b d' hb hq' hjq
        · rw [tmp v s', if_neg (D.apart i q ao bq d dq s' hiq hao hlq hs')]
          exact (hJ s' hs').ext E'
      rcases p2 with ⟨hgo, hstep⟩ | ⟨hgo, hnil, hskip⟩
      · rw [if_pos (genv true hgo)]
        refine .inl ?_
        rcases hstep with ⟨hq, hst0, hck⟩ | ⟨hq, h1, hh1, hst0⟩
        · have hstt := quiet (fun j b d' hb hq' hj => (hst j b d' hb hq' (qpre j hj)).1 (hpre j hj)) (fun j b d' hb hq' hlt => by
              by_cases hjq : j = q
              · subst hjq
                have := tw.sp
                omega
              · exact (hst j b d' hb hq' hjq).2 hlt) hq hst0 hck
          exact op_sim hc S hok henv hstt fun σ' w' v S' E' hv => still h σ' w' v rfl hq S'.hr E' hv
        · have hip := loud hq
          subst hip
          rw [← htp, hh] at p1
          injection p1 with p1
          subst p1
          rw [← htp] at hh1
          have hsq := tw.sp
          have hq1s : sp l q = t + 1 := by omega
          have hlt := sp_lt hlq hq2 (lt_of_get hlq) (Nat.le_refl _)
          -- what the second twin did in the text's order
          obtain ⟨hq0, r1, r2⟩ := (ht q bq dq hlq).how
          rw [hq1s, hh1] at r1
          injection r1 with r1
          subst r1
          have hq3 : hs[t + 2]? = some (h1 ++ [⟨.var, zq⟩]) ∧ tv q = [.sc (.ptr h1.length 0 zq.length)] := by
            rcases r2 with ⟨_, ⟨hq', _⟩ | ⟨_, h2, hh2, hst2⟩⟩ | ⟨hgf, _⟩
            · rw [hq2] at hq'; simp at hq'
            · rw [hopq] at hst2
              simp only [stepC, step] at hst2
              obtain ⟨e1, e2⟩ := some_pair hst2
              rw [hq1s] at hh2
              rw [e2]
              exact ⟨hh2, e1.symm⟩
            · rw [hg2] at hgf
              simp [guardOk] at hgf
          exact op_sim hc S hok henv hst0 fun σ' w' v S' E' hv => by
            obtain ⟨c, arr, j1, j2, j3, j4, j5, j6⟩ := (hJ sq hds).ext E'
            have H2 := S'.hr.adopt j2 j4 j5 j6
            have E2 := (E.trans E').adopt j3 ⟨.var, zq⟩
            refine go (t + 2) _ _ w' v hq3.1 (by omega) H2 E2 (.inl ⟨?_, fun j b d' hb hq' => ?_⟩)
            · have T1 : TmpX (· = q) σ' h1 w' l tv (es 0) (listed.setIfInBounds i true) (a.put o.dst v).tmps := hT.put (fun _ h => h) D.apart hao hils (fun x v h => TVR.ext H E' h) (tmp v) fun _ => hv
              intro s'
              refine ⟨fun j b d' hb _ hj hbd => ?_, fun hn => TVR.snoc ((T1 s').2 hn) j4 _⟩
              by_cases hjq : j = q
              · subst hjq
                rw [hlq] at hb
                injection hb with hb
                injection hb with hb _
                subst hb
                rw [hds] at hbd
                injection hbd with hbd
                subst hbd
                rw [tmp v sq, if_neg (D.apart i j ao bq d dq sq hiq hao hlq hds), j1, hq3.2]
                exact new_ptr
              · exact TVR.snoc ((T1 s').1 j b d' hb hjq hj hbd) j4 _
            · rw [set_getD listed i j (by omega)]
              by_cases hij : i = j
              · subst hij
                simp
                omega
              · rw [if_neg hij]
                by_cases hjq : j = q
                · subst hjq
                  rw [hql]
                  simp
                  omega
                · rw [hst j b d' hb hq' hjq]
                  have n1 : sp l j ≠ sp l i := fun he => hij (one i j ao b d d' hao hb hq hq' he.symm)
                  have n2 : sp l j ≠ sp l q := fun he => hjq (one j q b bq d' dq hb hlq hq' hq2 he)
                  omega
      · rw [if_neg (by rw [genv false hgo]; simp)]
        cases hq : d.q with
        | true => exact still h σ w undef rfl hq H (Ext.refl _ _ _) (by rw [hnil]; rfl)
        | false =>
          have hip := loud hq
          subst hip
          rw [hao] at hlp
          injection hlp with hlp
          injection hlp with e1 e2
          subst e1 e2
          rw [hg1] at hgo
          simp [guardOk] at hgo

/-- a region whose order is drawn, with loud operations in it -/
theorem draw2_sim (hc : CallOk P call) (hm : P.follows .mixedOrders = true) {ops : Array Oper} {l : List (AOper × DM)} (hk : okRow P nt ops (l.map (·.1)) ops.toList = true) (hd : okDraw2 ops.toList l = true) {e e' : Env} {h h' : Heap} {σ : Nat → Addr} {w : World} {a : Act} {id : Nat} {Q : Exit → Act → World → Prop}
    (hr : runDr call l e h = some (e', h')) (S : St base σ h w e nt a) (hQ : ∀ σ' w' a', St base σ' h' w' e' nt a' → Ext σ h w σ' h' w' → Q .normal a' w') : (Code.region id ops true).wp P Q a w := by
  have hl : l.length = ops.size := by have := (okRow_get hk).1; simpa using this
  have D := okDraw2_spec hl hd
  unfold runDr at hr
  split at hr
  · rename_i e1 h1 hs cs hrun
    split at hr
    · rename_i hcs
      obtain ⟨rfl, rfl⟩ := some_pair hr
      rw [List.all_eq_true] at hcs
      obtain ⟨es, tv, q1, q2, q3, q4, ht⟩ := runT_told l e e1 h h1 hs cs hrun
      refine wp_region_any hm ?_
      have hw : ({ w with drawn := w.drawn + 1 } : World) = w.drew := rfl
      rw [hw]
      have hrep : ∀ i, (Array.replicate ops.size false).getD i false = false := fun i => by
        simp only [Array.getD_eq_getD_getElem?, Array.getElem?_replicate]
        split <;> rfl
      refine any_sim2 hc D hk ht hcs q4 (σ0 := σ) (h0 := h) (w0 := w.drew) (fun σ' w' a' S' E' => ?_) ops.size _ a w.drew ?_ ⟨⟨0, h, σ, q3, Nat.zero_le _, S.hr.drew, Ext.refl _ _ _, .inl ⟨fun s => ⟨fun j b d _ _ hj => by rw [hrep] at hj; simp at hj, fun _ => by rw [q1]; exact TVR.ext S.hr Ext.drew (S.env s)⟩, fun j b d hb hq => by rw [hrep]; simp⟩⟩, S.defers, S.size, by simp [hl], fun j o _ hj => by rw [hrep] at hj; simp at hj⟩
      · rw [q2] at S'
        exact hQ σ' w' a' S' ((Ext.drew (σ := σ) (h := h) (w := w)).trans E')
      · unfold unl
        rw [List.countP_eq_length.2 fun i _ => by rw [hrep]; rfl]
        simp
    · contradiction
  · contradiction
end
end Go.Abs
