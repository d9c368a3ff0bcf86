/- The abstract machine, part 11: what the machine computes, Go computes: regions in the text's order, code, loops. -/
import Derived.Test.YtdodhmidhcpnnaaXA
set_option linter.unusedVariables false
set_option linter.unusedSimpArgs false
namespace Go.Abs

structure St (base : Nat) (σ : Nat → Addr) (h : Heap) (w : World) (e : Env) (nt : Nat) (a : Act) : Prop where
  hr : HR base σ h w
  env : EnvR σ h w e a.tmps
  defers : a.defers = []
  size : nt ≤ a.tmps.size

/-- what a call in the abstract machine promises -/
def CallOk (P : Program) (call : CallA) : Prop := ∀ f args h tv h', call f args h = some (tv, h') → entOk P f = true ∧
  ∀ base σ w (vs : List Value), HR base σ h w → All2 (TVR σ h w) args vs → Calls P f vs.toArray w fun e w' => ∃ σ' v, e = .returned v ∧ HR base σ' h' w' ∧ Ext σ h w σ' h' w' ∧ TVR σ' h' w' tv v

section
variable {P : Program} {base nt : Nat} {σ : Nat → Addr} {h h' : Heap} {w : World} {e e' : Env} {a : Act} {call : CallA}

theorem get_cons (d : Nat) (v : TV) (e : Env) (s : Nat) : Env.get ((d, v) :: e) s = if d = s then v else e.get s := by
  simp only [Env.get]
  by_cases hd : d = s
  · subst hd; simp
  · rw [if_neg hd]
    have : Nat.beq d s = false := by
      cases hb : Nat.beq d s with
      | false => rfl
      | true => exact absurd (Nat.eq_of_beq_eq_true hb) hd
    rw [this]
    rfl

theorem get_keep : ∀ (ks : List Nat) (e : Env) (s : Nat), (keep ks e).get s = e.get s ∨ (keep ks e).get s = []
  | [], e, s => .inr rfl
  | k :: ks, e, s => by
    have : keep (k :: ks) e = (k, e.get k) :: keep ks e := rfl
    rw [this, get_cons]
    by_cases hk : k = s
    · subst hk; simp
    · rw [if_neg hk]; exact get_keep ks e s

theorem EnvR.keep {ts : Array Value} (hE : EnvR σ h w e ts) (ks : List Nat) : EnvR σ h w (Abs.keep ks e) ts := fun s => by
  rcases get_keep ks e s with hg | hg
  · rw [hg]; exact hE s
  · rw [hg]; trivial

theorem EnvR.put (hE : EnvR σ h w e a.tmps) {dst : Option Nat} {tv : TV} {v : Value} (hd : ∀ d, dst = some d → d < a.tmps.size) (hv : TVR σ h w tv v) : EnvR σ h w (Abs.put e dst tv) (a.put dst v).tmps := fun s => by
  cases dst with
  | none => exact hE s
  | some d =>
    show TVR σ h w (Env.get ((d, tv) :: e) s) ((a.tmps.setIfInBounds d v).getD s undef)
    rw [get_cons]
    by_cases hs : d = s
    · subst hs
      have := hd d rfl
      rw [if_pos rfl]
      have e1 : (a.tmps.setIfInBounds d v).getD d undef = v := by simp [Array.getD, this]
      rw [e1]
      exact hv
    · rw [if_neg hs]
      have e1 : (a.tmps.setIfInBounds d v).getD s undef = a.tmps.getD s undef := by
        simp only [Array.getD_eq_getD_getElem?]
        rw [Array.getElem?_setIfInBounds_ne hs]
      rw [e1]
      exact hE s

theorem put_defers' (a : Act) (dst : Option Nat) (v : Value) : (a.put dst v).defers = a.defers := by cases dst <;> rfl
theorem put_size' (a : Act) (dst : Option Nat) (v : Value) : (a.put dst v).tmps.size = a.tmps.size := by cases dst <;> simp [Act.put]

theorem St.put {σ' : Nat → Addr} {w' : World} (S : St base σ h w e nt a) (H' : HR base σ' h' w') (E : Ext σ h w σ' h' w') {dst : Option Nat} {tv : TV} {v : Value} (hd : ∀ d, dst = some d → d < nt) (hv : TVR σ' h' w' tv v) :
    St base σ' h' w' (Abs.put e dst tv) nt (a.put dst v) :=
  ⟨H', (S.env.ext S.hr E).put (fun d hd' => Nat.lt_of_lt_of_le (hd d hd') S.size) hv, by rw [put_defers']; exact S.defers, by rw [put_size']; exact S.size⟩

theorem guard_wanted {ops : Array Oper} {o : Oper} {g : Option (Nat × Bool)} (hk : okGuard ops o.guard g = true) (hE : EnvR σ h w e a.tmps) {b : Bool} (hg : guardOk g e = some b) : Region.wanted o (yielded ops a.tmps) = b := by
  unfold okGuard at hk
  split at hk
  · rename_i h1
    simp only [guardOk] at hg
    injection hg with hg
    subst hg
    simp [Region.wanted, h1]
  · rename_i j b1 s b2 h1
    simp only [Bool.and_eq_true, beq_iff_eq] at hk
    obtain ⟨rfl, h2⟩ := hk
    simp only [guardOk] at hg
    split at hg
    · rename_i t ht
      injection hg with hg
      have hv := hE s
      rw [ht] at hv
      have hv' : a.tmps.getD s undef = .bool t := hv
      have hs : a.tmps[s]? = some (.bool t) := by
        rw [Array.getD_eq_getD_getElem?] at hv'
        cases hq : a.tmps[s]? with
        | none => rw [hq] at hv'; simp [undef] at hv'
        | some u => rw [hq] at hv'; simp at hv'; rw [hv']
      have hy : yielded ops a.tmps j = some t := by
        simp only [yielded, h2, Option.bind_some, hs]
      simp only [Region.wanted, h1, hy, ← hg]
      cases t <;> cases b1 <;> rfl
    · rename_i ht
      injection hg with hg
      have hv := hE s
      rw [ht] at hv
      have hv' : a.tmps.getD s undef = undef := hv
      have hy : yielded ops a.tmps j = none := by
        simp only [yielded, h2, Option.bind_some]
        cases hq : a.tmps[s]? with
        | none => rfl
        | some u =>
          rw [Array.getD_eq_getD_getElem?, hq] at hv'
          have hu : u = undef := by simpa using hv'
          subst hu
          rfl
      simp only [Region.wanted, h1, hy, ← hg]
      rfl
    · contradiction
  · simp at hk

theorem entOk_spec {f : Nat} (hk : entOk P f = true) : ∃ fn, P.funcs[f]? = some fn ∧ fn.body.isNone = false ∧ fn.name ≠ "runtime.NumGoroutine" := by
  unfold entOk at hk
  split at hk
  · rename_i fn hf
    simp only [Bool.and_eq_true, Bool.not_eq_true', beq_eq_false_iff_ne, ne_eq] at hk
    exact ⟨fn, hf, by cases hb : fn.body <;> simp_all, hk.2⟩
  · simp at hk

theorem run_enter {f : Nat} (hk : entOk P f = true) (args : Array Value) (w : World) : (callFunc f args).run P w = .ok (.enter f args) w := by
  obtain ⟨fn, hf, hb, hn⟩ := entOk_spec hk
  have hb' : fn.body ≠ none := fun e => by rw [e] at hb; simp at hb
  simp [callFunc, hf, hb', hn]

theorem okOs_R {ρ : Operand → Value} (hρ : ∀ x y, okO x y = true → TVR σ h w (x.ev e) (ρ y)) : ∀ {l : List Opd} {m : List Operand}, okOs l m = true → All2 (TVR σ h w) (l.map (Opd.ev e)) (m.map ρ)
  | [], [], _ => trivial
  | x :: l, y :: m, hk => by
    simp only [okOs, Bool.and_eq_true] at hk
    exact ⟨hρ x y hk.1, okOs_R hρ hk.2⟩
  | [], _ :: _, hk => by simp [okOs] at hk
  | _ :: _, [], hk => by simp [okOs] at hk

theorem capArgs_R : ∀ (caps : List (Nat × Nat × Nat)) (vs : List Value), vs.length = caps.length → (∀ (i : Nat) (p : Nat × Nat × Nat) (u : Value), caps[i]? = some p → vs[i]? = some u → ∃ B, h[p.1]? = some B ∧ p.2.2 ≤ B.c.length ∧ (p.2.2 = B.c.length → u = .pointer (some ((σ p.1).add p.2.1)))) →
    (∀ p ∈ caps, freshB h p.1 p.2.2 = true) → All2 (TVR σ h w) (capArgs caps) vs
  | [], [], _, _, _ => trivial
  | p :: caps, v :: vs, hl, hc, hf => by
    obtain ⟨B, hB, h1, h2⟩ := hc 0 p v (by simp) (by simp)
    obtain ⟨B', hB', h3⟩ := freshB_spec (hf p (by simp))
    rw [hB] at hB'
    injection hB' with hB'
    subst hB'
    refine ⟨⟨B, hB, h1, ?_, h2⟩, capArgs_R caps vs (by simpa using hl) (fun i q u hq hu => hc (i + 1) q u (by simpa using hq) (by simpa using hu)) (fun q hq => hf q (by simp [hq]))⟩
    rw [h2 h3]; rfl
  | [], _ :: _, hl, _, _ => by simp at hl
  | _ :: _, [], hl, _, _ => by simp at hl

/-- one operation: what stands behind it in Go -/
theorem op_sim (hc : CallOk P call) (S : St base σ h w e nt a) {ops : Array Oper} {ao : AOper} {o : Oper} (hk : okAO P nt ops ao o = true) {ee : Env} (hee : EnvR σ h w ee a.tmps) {tv : TV} (hs : stepC call ao.op ee h = some (tv, h')) {next : Act → World → Prop} {Q : Exit → Act → World → Prop}
    (hn : ∀ σ' w' v, St base σ' h' w' (Abs.put e ao.dst tv) nt (a.put o.dst v) → Ext σ h w σ' h' w' → TVR σ' h' w' tv v → next (a.put o.dst v) w') : o.wp P a w next Q := by
  unfold okAO at hk
  simp only [Bool.and_eq_true, beq_iff_eq, Bool.or_eq_true] at hk
  obtain ⟨⟨⟨hdst, hlt⟩, _⟩, hop⟩ := hk
  have hd : ∀ d, ao.dst = some d → d < nt := fun d hd => by rw [hdst] at hd; rw [hd] at hlt; simpa using hlt
  have hρ : ∀ x y, okO x y = true → TVR σ h w (x.ev ee) (a.eval y) := fun x y hk => okO_R hee hk
  unfold Oper.wp
  rcases hop with hcall | hop
  · unfold okCall at hcall
    split at hcall
    · rename_i f args c hao ho
      simp only [Bool.and_eq_true] at hcall
      obtain ⟨hf, ha⟩ := hcall
      split at hf
      · rename_i g hg
        simp only [beq_iff_eq] at hf
        subst hf
        rw [hao] at hs
        simp only [stepC] at hs
        obtain ⟨hent, hcalls⟩ := hc f _ h tv h' hs
        have hrun : (execOp a.eval o).run P w = .ok (.enter f ((c.args.toList.map a.eval).toArray)) w := by
          have e0 : (#[] : Array Value) ++ c.args.map a.eval ++ #[] = (c.args.toList.map a.eval).toArray := by apply Array.ext'; simp
          simp only [execOp, ho, resolve, hg, Sem.run_bind]
          simp only [Act.eval, Deferred.ofValue, Sem.run_pure, Result.andThen_ok, invoke]
          rw [← run_enter (P := P) hent, ← e0]
        rw [hrun, Oper.upon_enter]
        refine (hcalls base σ w _ S.hr (okOs_R hρ ha)).mono fun en w' hen => ?_
        obtain ⟨σ', v, rfl, q1, q2, q3⟩ := hen
        have S' := S.put q1 q2 (dst := ao.dst) hd q3
        rw [hdst] at S'
        exact hn σ' w' v (by rw [hdst]; exact S') q2 q3
      · simp at hf
    · rename_i x args c hao ho
      simp only [Bool.and_eq_true] at hcall
      obtain ⟨hf, ha⟩ := hcall
      split at hf
      · rename_i y hg
        rw [hao] at hs
        simp only [stepC] at hs
        split at hs
        · rename_i f caps hx
          split at hs
          · rename_i hfr
            obtain ⟨hent, hcalls⟩ := hc f _ h tv h' hs
            have hv := hρ x y hf
            rw [hx] at hv
            obtain ⟨vs, he1, he2, he3⟩ := hv
            have hrun : (execOp a.eval o).run P w = .ok (.enter f ((c.args.toList.map a.eval ++ vs).toArray)) w := by
              have e0 : (#[] : Array Value) ++ c.args.map a.eval ++ vs.toArray = (c.args.toList.map a.eval ++ vs).toArray := by apply Array.ext'; simp
              simp only [execOp, ho, resolve, hg, Sem.run_bind]
              rw [he1]
              simp only [Deferred.ofValue, Sem.run_pure, Result.andThen_ok, invoke]
              rw [← run_enter (P := P) hent, ← e0]
            have hcaps := capArgs_R (σ := σ) (w := w) caps vs he2 he3 (fun p hp => by rw [List.all_eq_true] at hfr; exact hfr p hp)
            rw [hrun, Oper.upon_enter]
            refine (hcalls base σ w _ S.hr (All2.append (okOs_R hρ ha) hcaps)).mono fun en w' hen => ?_
            obtain ⟨σ', v, rfl, q1, q2, q3⟩ := hen
            have S' := S.put q1 q2 (dst := ao.dst) hd q3
            rw [hdst] at S'
            exact hn σ' w' v (by rw [hdst]; exact S') q2 q3
          · contradiction
        · contradiction
      · simp at hf
    · simp at hcall
  · have hst : step ao.op ee h = some (tv, h') := by
      cases hao : ao.op <;> rw [hao] at hs hop <;> simp only [stepC] at hs <;> first | exact hs | (simp [okOp] at hop)
    obtain ⟨σ', w', n, r1, r2, r3, r4⟩ := op_run S.hr (ρ := a.eval) (fun _ => rfl) hρ hop hst
    rw [r1]
    rcases r4 with ⟨v, rfl, hv⟩ | ⟨rfl, rfl⟩
    · have S' := S.put r2 r3 (dst := ao.dst) hd hv
      rw [hdst] at S'
      exact hn σ' w' v (by rw [hdst]; exact S') r3 hv
    · have S' := S.put r2 r3 (dst := ao.dst) (tv := []) (v := undef) hd trivial
      rw [hdst] at S'
      exact hn σ' w' undef (by rw [hdst]; exact S') r3 trivial

theorem St.skip (S : St base σ h w e nt a) {dst : Option Nat} (hd : ∀ d, dst = some d → d < nt) : St base σ h w (Abs.put e dst [.undef]) nt (a.put dst undef) :=
  S.put S.hr (Ext.refl _ _ _) hd rfl

theorem okRow_get {ops : Array Oper} : ∀ {l : List AOper} {m : List Oper}, okRow P nt ops l m = true → l.length = m.length ∧ ∀ (i : Nat) (x : AOper) (y : Oper), l[i]? = some x → m[i]? = some y → okAO P nt ops x y = true
  | [], [], _ => ⟨rfl, fun i x y hx => by simp at hx⟩
  | x :: l, y :: m, hk => by
    simp only [okRow, Bool.and_eq_true] at hk
    obtain ⟨h1, h2⟩ := okRow_get hk.2
    refine ⟨by simp [h1], fun i u v hu hv => ?_⟩
    cases i with
    | zero => simp at hu hv; subst hu hv; exact hk.1
    | succ i => exact h2 i u v (by simpa using hu) (by simpa using hv)
  | [], _ :: _, hk => by simp [okRow] at hk
  | _ :: _, [], hk => by simp [okRow] at hk

theorem okAO_dst {ops : Array Oper} {ao : AOper} {o : Oper} (hk : okAO P nt ops ao o = true) : ao.dst = o.dst ∧ (∀ d, ao.dst = some d → d < nt) ∧ okGuard ops o.guard ao.guard = true := by
  unfold okAO at hk
  simp only [Bool.and_eq_true, beq_iff_eq, Bool.or_eq_true] at hk
  obtain ⟨⟨⟨hdst, hlt⟩, hg⟩, _⟩ := hk
  exact ⟨hdst, fun d hd => by rw [hdst] at hd; rw [hd] at hlt; simpa using hlt, hg⟩

theorem EnvR.envOf (hE : EnvR σ h w e a.tmps) (ao : AOper) : EnvR σ h w (Abs.envOf ao e) a.tmps := by
  unfold Abs.envOf
  split
  · exact hE
  · exact hE.keep _

/-- a region in the text's order -/
theorem row_sim (hc : CallOk P call) (ops : Array Oper) {Q : Exit → Act → World → Prop} : ∀ (l : List AOper) (m : List Oper) (i : Nat) {e e' : Env} {h h' : Heap} {σ : Nat → Addr} {w : World} {a : Act}, (∀ j, m[j]? = ops[i + j]?) → okRow P nt ops l m = true → runOps call l e h = some (e', h') →
    St base σ h w e nt a → (∀ σ' w' a', St base σ' h' w' e' nt a' → Ext σ h w σ' h' w' → Q .normal a' w') → wpOps P ops Q (List.range' i m.length) a w
  | [], [], i, e, e', h, h', σ, w, a, _, _, hr, S, hq => by
    simp only [runOps] at hr
    obtain ⟨rfl, rfl⟩ := some_pair hr
    exact hq σ w a S (Ext.refl _ _ _)
  | ao :: l, o :: m, i, e, e', h, h', σ, w, a, hm, hk, hr, S, hq => by
    have hk' := hk
    simp only [okRow, Bool.and_eq_true] at hk
    obtain ⟨hdst, hlt, hg⟩ := okAO_dst hk.1
    have ho : ops[i]? = some o := by have := hm 0; simpa using this.symm
    have hm' : ∀ j, m[j]? = ops[i + 1 + j]? := fun j => by have := hm (j + 1); simpa [Nat.add_assoc, Nat.add_comm 1 j] using this
    simp only [List.length_cons, List.range'_succ, wpOps, ho]
    simp only [runOps] at hr
    split at hr
    · rename_i hgo
      rw [if_pos (guard_wanted hg S.env hgo)]
      split at hr
      · rename_i tv h1 hst
        refine .inl (op_sim hc S hk.1 (S.env.envOf ao) hst fun σ' w' v S' E _ => ?_)
        exact row_sim hc ops l m (i + 1) hm' hk.2 hr S' fun σ'' w'' a'' S'' E'' => hq σ'' w'' a'' S'' (E.trans E'')
      · contradiction
    · rename_i hgo
      rw [if_neg (by rw [guard_wanted hg S.env hgo]; simp)]
      have S' := S.skip (dst := ao.dst) hlt
      rw [hdst] at S'
      exact row_sim hc ops l m (i + 1) hm' hk.2 (by rw [hdst] at hr; exact hr) S' hq
    · contradiction
  | [], _ :: _, _, _, _, _, _, _, _, _, _, hk, _, _, _ => by simp [okRow] at hk
  | _ :: _, [], _, _, _, _, _, _, _, _, _, hk, _, _, _ => by simp [okRow] at hk
end
end Go.Abs
