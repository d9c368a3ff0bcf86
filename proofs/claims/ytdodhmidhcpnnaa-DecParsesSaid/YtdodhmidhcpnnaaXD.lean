/- The abstract machine, part 13: code, loops, calls: the machine's theorem. -/
import Derived.Test.YtdodhmidhcpnnaaXE
set_option linter.unusedVariables false
set_option linter.unusedSimpArgs false
namespace Go.Abs

def AEx.toExit : AEx → Exit
  | .normal => .normal
  | .exit i => .exit i
  | .ret => .ret

/-- the program follows every order (a closed fact of each program) -/
abbrev Mixed (P : Program) : Prop := P.follows .mixedOrders = true

section
variable {P : Program} {base nt : Nat} {call : CallA}

abbrev LoopK := ACode → Env → Heap → Option (AEx × Env × Heap)

def LoopHyp (P : Program) (base nt : Nat) (loopK : LoopK) (N : Nat) : Prop :=
  ∀ (ks : List Nat) (c : ACode) (c' : Code) (e : Env) (h : Heap) (x : AEx) (e' : Env) (h' : Heap) (σ : Nat → Addr) (w : World) (a : Act) (Q : Exit → Act → World → Prop), loopK (.loop ks c) e h = some (x, e', h') → okCode P nt c c' = true →
    St base σ h w e nt a → (∀ σ' w' a', St base σ' h' w' e' nt a' → Ext σ h w σ' h' w' → Q x.toExit a' w') → Code.rounds P c' Q N a w

theorem St.keep {σ : Nat → Addr} {h : Heap} {w : World} {e : Env} {a : Act} (S : St base σ h w e nt a) (ks : List Nat) : St base σ h w (Abs.keep ks e) nt a := ⟨S.hr, S.env.keep ks, S.defers, S.size⟩

theorem code_sim (hc : CallOk P call) (hm : Mixed P) {loopK : LoopK} {N : Nat} (hL : LoopHyp P base nt loopK N) : ∀ (c : ACode) (c' : Code) (e : Env) (h : Heap) (x : AEx) (e' : Env) (h' : Heap) (σ : Nat → Addr) (w : World) (a : Act) (Q : Exit → Act → World → Prop),
    runL call loopK c e h = some (x, e', h') → okCode P nt c c' = true → St base σ h w e nt a → (∀ σ' w' a', St base σ' h' w' e' nt a' → Ext σ h w σ' h' w' → Q x.toExit a' w') → c'.wp P Q a w := by
  intro c
  induction c with
  | stuck =>
    intro c' e h x e' h' σ w a Q hr
    simp [runL] at hr
  | skip =>
    intro c' e h x e' h' σ w a Q hr hk S hq
    cases c' <;> simp only [okCode, Bool.false_eq_true] at hk
    simp only [runL] at hr
    injection hr with hr
    injection hr with e1 hr
    injection hr with e2 e3
    subst e1 e2 e3
    exact wp_skip (hq σ w a S (Ext.refl _ _ _))
  | reg d l ks =>
    intro c' e h x e' h' σ w a Q hr hk S hq
    cases c' <;> simp only [okCode, Bool.false_eq_true, Bool.and_eq_true, beq_iff_eq, Bool.or_eq_true, Bool.not_eq_true'] at hk
    obtain ⟨⟨rfl, hrow⟩, hdr⟩ := hk
    simp only [runL] at hr
    split at hr
    · rename_i e1 h1 hro
      injection hr with hr
      injection hr with q1 hr
      injection hr with q2 q3
      subst q1 q2 q3
      have hq' : ∀ σ' w' a', St base σ' h1 w' e1 nt a' → Ext σ h w σ' h1 w' → Q .normal a' w' := fun σ' w' a' S' E' => hq σ' w' a' (S'.keep ks) E'
      cases d with
      | false =>
        refine wp_region ?_
        have := row_sim hc _ (Q := Q) l _ 0 (fun j => by simp) hrow hro S hq'
        rw [List.range_eq_range']
        simpa using this
      | true =>
        rcases hdr with hdr | hdr
        · simp at hdr
        · exact draw_sim hc hm hrow hdr hro S hq'
    · contradiction
  | regd l ks =>
    intro c' e h x e' h' σ w a Q hr hk S hq
    cases c' <;> simp only [okCode, Bool.false_eq_true, Bool.and_eq_true] at hk
    obtain ⟨⟨hd, hrow⟩, hdr⟩ := hk
    subst hd
    simp only [runL] at hr
    split at hr
    · rename_i e1 h1 hro
      injection hr with hr
      injection hr with q1 hr
      injection hr with q2 q3
      subst q1 q2 q3
      exact draw2_sim hc hm hrow hdr hro S fun σ' w' a' S' E' => hq σ' w' a' (S'.keep ks) E'
    · contradiction
  | seq c1 c2 ih1 ih2 =>
    intro c' e h x e' h' σ w a Q hr hk S hq
    cases c' <;> simp only [okCode, Bool.false_eq_true, Bool.and_eq_true] at hk
    simp only [runL] at hr
    refine wp_seq ?_
    split at hr
    · rename_i e1 h1 hr1
      exact ih1 _ e h .normal e1 h1 σ w a _ hr1 hk.1 S fun σ' w' a' S' E' => ih2 _ e1 h1 x e' h' σ' w' a' Q hr hk.2 S' fun σ'' w'' a'' S'' E'' => hq σ'' w'' a'' S'' (E'.trans E'')
    · rename_i i e1 h1 hr1
      injection hr with hr
      injection hr with q1 hr
      injection hr with q2 q3
      subst q1 q2 q3
      exact ih1 _ e h _ _ _ σ w a _ hr1 hk.1 S fun σ' w' a' S' E' => hq σ' w' a' S' E'
    · rename_i e1 h1 hr1
      injection hr with hr
      injection hr with q1 hr
      injection hr with q2 q3
      subst q1 q2 q3
      exact ih1 _ e h _ _ _ σ w a _ hr1 hk.1 S fun σ' w' a' S' E' => hq σ' w' a' S' E'
    · contradiction
  | cond c t f iht ihf =>
    intro c' e h x e' h' σ w a Q hr hk S hq
    cases c' <;> simp only [okCode, Bool.false_eq_true, Bool.and_eq_true] at hk
    simp only [runL] at hr
    split at hr
    · rename_i b hb
      have hv := okO_R S.env hk.1.1
      rw [hb] at hv
      refine wp_cond (sc_bool hv) ?_
      cases b
      · exact ihf _ e h x e' h' σ w a Q (by simpa using hr) hk.2 S hq
      · exact iht _ e h x e' h' σ w a Q (by simpa using hr) hk.1.2 S hq
    · contradiction
  | block i ks c ih =>
    intro c' e h x e' h' σ w a Q hr hk S hq
    cases c' <;> simp only [okCode, Bool.false_eq_true, Bool.and_eq_true, beq_iff_eq] at hk
    obtain ⟨rfl, hk⟩ := hk
    simp only [runL] at hr
    refine wp_block ?_
    split at hr
    · rename_i e1 h1 hr1
      injection hr with hr
      injection hr with q1 hr
      injection hr with q2 q3
      subst q1 q2 q3
      exact ih _ e h _ _ _ σ w a _ hr1 hk S fun σ' w' a' S' E' => hq σ' w' a' (S'.keep ks) E'
    · rename_i j e1 h1 hr1
      split at hr
      · rename_i hj
        injection hr with hr
        injection hr with q1 hr
        injection hr with q2 q3
        subst q1 q2 q3 hj
        refine ih _ e h _ _ _ σ w a _ hr1 hk S fun σ' w' a' S' E' => ?_
        show Exit.inBlock _ Q (.exit _) a' w'
        simp only [Exit.inBlock, if_true]
        exact hq σ' w' a' (S'.keep ks) E'
      · rename_i hj
        injection hr with hr
        injection hr with q1 hr
        injection hr with q2 q3
        subst q1 q2 q3
        refine ih _ e h _ _ _ σ w a _ hr1 hk S fun σ' w' a' S' E' => ?_
        show Exit.inBlock _ Q (.exit _) a' w'
        simp only [Exit.inBlock, if_neg hj]
        exact hq σ' w' a' S' E'
    · rename_i e1 h1 hr1
      injection hr with hr
      injection hr with q1 hr
      injection hr with q2 q3
      subst q1 q2 q3
      exact ih _ e h _ _ _ σ w a _ hr1 hk S fun σ' w' a' S' E' => hq σ' w' a' S' E'
    · contradiction
  | loop ks c ih =>
    intro c' e h x e' h' σ w a Q hr hk S hq
    cases c' <;> simp only [okCode, Bool.false_eq_true, Bool.and_eq_true, beq_iff_eq] at hk
    simp only [runL] at hr
    refine wp_loop_rounds (N + 1) ?_
    rw [rounds_succ]
    split at hr
    · rename_i e1 h1 hr1
      exact ih _ _ h _ _ _ σ w a _ hr1 hk (S.keep ks) fun σ' w' a' S' E' => hL ks c _ e1 h1 x e' h' σ' w' a' Q hr hk S' fun σ'' w'' a'' S'' E'' => hq σ'' w'' a'' S'' (E'.trans E'')
    · rename_i i e1 h1 hr1
      injection hr with hr
      injection hr with q1 hr
      injection hr with q2 q3
      subst q1 q2 q3
      exact ih _ _ h _ _ _ σ w a _ hr1 hk (S.keep ks) fun σ' w' a' S' E' => hq σ' w' a' S' E'
    · rename_i e1 h1 hr1
      injection hr with hr
      injection hr with q1 hr
      injection hr with q2 q3
      subst q1 q2 q3
      exact ih _ _ h _ _ _ σ w a _ hr1 hk (S.keep ks) fun σ' w' a' S' E' => hq σ' w' a' S' E'
    · contradiction
  | exit i =>
    intro c' e h x e' h' σ w a Q hr hk S hq
    cases c' <;> simp only [okCode, Bool.false_eq_true, beq_iff_eq] at hk
    subst hk
    simp only [runL] at hr
    injection hr with hr
    injection hr with e1 hr
    injection hr with e2 e3
    subst e1 e2 e3
    exact wp_exit (hq σ w a S (Ext.refl _ _ _))
  | ret =>
    intro c' e h x e' h' σ w a Q hr hk S hq
    cases c' <;> simp only [okCode, Bool.false_eq_true] at hk
    simp only [runL] at hr
    injection hr with hr
    injection hr with e1 hr
    injection hr with e2 e3
    subst e1 e2 e3
    exact wp_ret (hq σ w a S (Ext.refl _ _ _))

theorem loopHyp_of (hc : CallOk P call) (hm : Mixed P) {loopK : LoopK} {N : Nat} (hL : LoopHyp P base nt loopK N) : LoopHyp P base nt (runL call loopK) (N + 1) := by
  intro ks c c' e h x e' h' σ w a Q hr hk S hq
  rw [rounds_succ]
  simp only [runL] at hr
  split at hr
  · rename_i e1 h1 hr1
    exact code_sim hc hm hL _ _ _ h _ _ _ σ w a _ hr1 hk (S.keep ks) fun σ' w' a' S' E' => hL ks c _ e1 h1 x e' h' σ' w' a' Q hr hk S' fun σ'' w'' a'' S'' E'' => hq σ'' w'' a'' S'' (E'.trans E'')
  · rename_i i e1 h1 hr1
    injection hr with hr
    injection hr with q1 hr
    injection hr with q2 q3
    subst q1 q2 q3
    exact code_sim hc hm hL _ _ _ h _ _ _ σ w a _ hr1 hk (S.keep ks) fun σ' w' a' S' E' => hq σ' w' a' S' E'
  · rename_i e1 h1 hr1
    injection hr with hr
    injection hr with q1 hr
    injection hr with q2 q3
    subst q1 q2 q3
    exact code_sim hc hm hL _ _ _ h _ _ _ σ w a _ hr1 hk (S.keep ks) fun σ' w' a' S' E' => hq σ' w' a' S' E'
  · contradiction

theorem loopHyp (hc : CallOk P call) (hm : Mixed P) : ∀ n, LoopHyp P base nt (runC call n) (n + 1)
  | 0 => loopHyp_of hc hm (N := 0) (fun ks c c' e h x e' h' σ w a Q hr => by simp at hr)
  | n + 1 => loopHyp_of hc hm (loopHyp hc hm n)

theorem runC_sim (hc : CallOk P call) (hm : Mixed P) (n : Nat) {c : ACode} {c' : Code} {e : Env} {h : Heap} {x : AEx} {e' : Env} {h' : Heap} {σ : Nat → Addr} {w : World} {a : Act} {Q : Exit → Act → World → Prop}
    (hr : runC call n c e h = some (x, e', h')) (hk : okCode P nt c c' = true) (S : St base σ h w e nt a) (hq : ∀ σ' w' a', St base σ' h' w' e' nt a' → Ext σ h w σ' h' w' → Q x.toExit a' w') : c'.wp P Q a w := by
  cases n with
  | zero => exact code_sim hc hm (N := 0) (fun ks c c' e h x e' h' σ w a Q hr => by simp at hr) c c' e h x e' h' σ w a Q hr hk S hq
  | succ n => exact code_sim hc hm (loopHyp hc hm n) c c' e h x e' h' σ w a Q hr hk S hq

-- results
def resOf (tmps : Array Value) : ResultVar → Sem Value
  | .tmp t => pure (tmps.getD t undef)
  | .cell a t => do loadVar t (← asAddr (tmps.getD a undef))

theorem results_eq (fn : Func) (tmps : Array Value) : results fn tmps = (do let vs ← fn.results.mapM (resOf tmps); pure (if h : vs.size = 1 then vs[0] else .tuple vs)) := by
  unfold results
  have : ∀ f : ResultVar → Sem Value, (∀ r, f r = resOf tmps r) → (do let vs ← fn.results.mapM f; pure (if h : vs.size = 1 then vs[0] else .tuple vs) : Sem Value) = (do let vs ← fn.results.mapM (resOf tmps); pure (if h : vs.size = 1 then vs[0] else .tuple vs)) := fun f hf => by
    rw [show f = resOf tmps from funext hf]
  exact this _ fun r => by cases r <;> rfl

theorem resOf_cell {P : Program} {tmps : Array Value} {p : Nat} {t : TypeId} {ad : Addr} {v : Value} {w : World} (e1 : tmps.getD p undef = .pointer (some ad)) (e2 : (loadVar t ad).run P w = .ok v w) : (resOf tmps (.cell p t)).run P w = .ok v w := by
  simp only [resOf, e1, asAddr, Sem.run_bind, Sem.run_pure, Result.andThen_ok, e2]

theorem res_sim {σ : Nat → Addr} {h : Heap} {w : World} {e : Env} {a : Act} (H : HR base σ h w) (hE : EnvR σ h w e a.tmps) : ∀ (rs : List ARes) (rs' : List ResultVar) (l : List AV), okRes P nt rs rs' = true → resA e h rs = some l →
    ∃ vs : List Value, (rs'.mapM (resOf a.tmps)).run P w = .ok vs w ∧ All2 (AVR σ h w) l vs
  | [], [], l, _, hr => by
    simp only [resA] at hr
    injection hr with hr
    subst hr
    exact ⟨[], rfl, trivial⟩
  | .tmp t :: rs, .tmp t' :: rs', l, hk, hr => by
    simp only [okRes, Bool.and_eq_true, beq_iff_eq] at hk
    obtain ⟨rfl, hk⟩ := hk
    simp only [resA] at hr
    split at hr
    · rename_i v l' hv hl
      injection hr with hr
      subst hr
      obtain ⟨vs, h1, h2⟩ := res_sim H hE rs rs' l' hk hl
      have hx := hE t
      rw [hv] at hx
      exact ⟨a.tmps.getD t undef :: vs, by simp only [List.mapM_cons, Sem.run_bind, resOf, Sem.run_pure, Result.andThen_ok, h1], hx, h2⟩
    · contradiction
  | .cell p ag n :: rs, .cell p' t :: rs', l, hk, hr => by
    simp only [okRes, Bool.and_eq_true, beq_iff_eq] at hk
    obtain ⟨⟨⟨⟨rfl, hag⟩, hsz⟩, h1c⟩, hk⟩ := hk
    simp only [resA] at hr
    split at hr
    · rename_i b o k l' hp hl
      obtain ⟨vs, h1, h2⟩ := res_sim H hE rs rs' l' hk hl
      have hx := hE p
      rw [hp] at hx
      have fin : ∀ (v : Value) (y : AV) (ad : Addr), a.tmps.getD p undef = .pointer (some ad) → (loadVar t ad).run P w = .ok v w → AVR σ h w y v → l = y :: l' →
          ∃ vs : List Value, ((ResultVar.cell p t :: rs').mapM (resOf a.tmps)).run P w = .ok vs w ∧ All2 (AVR σ h w) l vs := fun v y ad e1 e2 e3 e4 => by
        subst e4
        refine ⟨v :: vs, ?_, e3, h2⟩
        simp only [List.mapM_cons, Sem.run_bind, resOf_cell e1 e2, Sem.run_pure, Result.andThen_ok, h1]
      split at hr
      · rename_i B hB
        split at hr
        · rename_i hc
          have hp2 := fresh_ptr (w := w) hx (by unfold freshB; rw [hB]; simpa using hc.1)
          split at hr
          · rename_i hag'
            injection hr with hr
            subst hag'
            obtain ⟨us, q1, q2⟩ := run_cells (P := P) H hB hc.2
            exact fin (.agg us.toArray) (.agg ((B.c.drop o).take n)) _ hp2 (by simp only [loadVar, Sem.run_bind, run_isAgg hag, Result.andThen_ok, if_true, run_sizeTy hsz, q1, Sem.run_pure]) ⟨us, rfl, q2⟩ hr.symm
          · rename_i hag'
            split at hr
            · rename_i x hxx
              injection hr with hr
              obtain ⟨u, q1, q2⟩ := H.read hB hxx
              have hag2 : ag = false := by simpa using hag'
              subst hag2
              exact fin u (.sc x) _ hp2 (by simp only [loadVar, Sem.run_bind, run_isAgg hag, Result.andThen_ok, Bool.false_eq_true, if_false, run_load, q1]) q2 hr.symm
            · contradiction
        · contradiction
      · contradiction
    · contradiction
  | [], _ :: _, _, hk, _ => by simp [okRes] at hk
  | _ :: _, [], _, hk, _ => by simp [okRes] at hk
  | .tmp _ :: _, .cell _ _ :: _, _, hk, _ => by simp [okRes] at hk
  | .cell _ _ _ :: _, .tmp _ :: _, _, hk, _ => by simp [okRes] at hk

theorem results_sim {fn : Func} {σ : Nat → Addr} {h : Heap} {w : World} {e : Env} {a : Act} (H : HR base σ h w) (hE : EnvR σ h w e a.tmps) {rs : List ARes} {l : List AV} (hk : okRes P nt rs fn.results.toList = true) (hr : resA e h rs = some l) :
    ∃ v, (results fn a.tmps).run P w = .ok v w ∧ TVR σ h w l v := by
  obtain ⟨vs, h1, h2⟩ := res_sim H hE rs fn.results.toList l hk hr
  have hl := All2.length h2
  have run : (fn.results.mapM (resOf a.tmps)).run P w = .ok vs.toArray w := by
    rw [Array.mapM_eq_mapM_toList, Sem.run_map, h1]
    rfl
  rw [results_eq, Sem.run_bind, run]
  refine ⟨if h : vs.toArray.size = 1 then vs.toArray[0] else .tuple vs.toArray, rfl, ?_⟩
  · match l, vs, h2, hl with
    | [], [], _, _ => trivial
    | [x], [v], h2, _ => exact h2.1
    | x :: y :: l, v :: u :: vs, h2, _ =>
      have : ¬ ((v :: u :: vs).toArray.size = 1) := by simp
      rw [dif_neg this]
      exact ⟨v :: u :: vs, rfl, h2⟩

-- what is left behind a call
theorem okOld_get {n : Nat} : ∀ {h h' : Heap}, okOld n h h' = true → h.length ≤ h'.length ∧ ∀ (j : Nat) (B C : Blk), h[j]? = some B → h'[j]? = some C → (∀ x ∈ C.c, belowS n x = true) ∨ B.c = C.c
  | [], h', _ => ⟨Nat.zero_le _, fun j B C hB => by simp at hB⟩
  | B :: r, C :: s, hk => by
    simp only [okOld, Bool.and_eq_true, Bool.or_eq_true] at hk
    obtain ⟨h1, h2⟩ := okOld_get hk.2
    refine ⟨by simp; exact h1, fun j X Y hX hY => ?_⟩
    cases j with
    | zero =>
      simp at hX hY
      subst hX hY
      rcases hk.1 with hb | hs
      · rw [List.all_eq_true] at hb; exact .inl hb
      · exact .inr (sames_eq hs)
    | succ j => exact h2 j X Y (by simpa using hX) (by simpa using hY)
  | _ :: _, [], hk => by simp [okOld] at hk

theorem blt_iff {a b : Nat} : Nat.blt a b = true ↔ a < b := by simp [Nat.blt, Nat.lt_iff_add_one_le]

theorem SVR.below {σ : Nat → Addr} {h : Heap} {w : World} {x : SV} {v : Value} (hv : SVR σ h w x v) : belowS h.length x = true := by
  cases x with
  | ptr b o e => obtain ⟨B, hB, _⟩ := hv; exact blt_iff.2 (lt_of_get hB)
  | sl b o n c => obtain ⟨B, hB, _⟩ := hv; exact blt_iff.2 (lt_of_get hB)
  | fn f caps =>
    obtain ⟨vs, h1, h2, h3⟩ := hv
    simp only [belowS, List.all_eq_true]
    intro p hp
    obtain ⟨i, hi, rfl⟩ := List.mem_iff_getElem.1 hp
    obtain ⟨B, hB, _⟩ := h3 i caps[i] (vs[i]'(by omega)) (List.getElem?_eq_getElem hi) (List.getElem?_eq_getElem _)
    exact blt_iff.2 (lt_of_get hB)
  | _ => rfl

theorem take_get {α : Type} {l : List α} {n b : Nat} (hb : b < n) : (l.take n)[b]? = l[b]? := by rw [List.getElem?_take, if_pos hb]

theorem SVR.take {σ : Nat → Addr} {h : Heap} {w : World} {x : SV} {v : Value} (hv : SVR σ h w x v) {n : Nat} (hb : belowS n x = true) : SVR σ (h.take n) w x v := by
  cases x with
  | ptr b o e =>
    obtain ⟨B, hB, rest⟩ := hv
    exact ⟨B, by rw [take_get (blt_iff.1 hb)]; exact hB, rest⟩
  | sl b o n' c =>
    obtain ⟨B, hB, rest⟩ := hv
    exact ⟨B, by rw [take_get (blt_iff.1 hb)]; exact hB, rest⟩
  | fn f caps =>
    obtain ⟨vs, h1, h2, h3⟩ := hv
    refine ⟨vs, h1, h2, fun i p u hp hu => ?_⟩
    obtain ⟨B, hB, rest⟩ := h3 i p u hp hu
    have : p.1 < n := by
      simp only [belowS, List.all_eq_true] at hb
      exact blt_iff.1 (hb p (List.mem_of_getElem? hp))
    exact ⟨B, by rw [take_get this]; exact hB, rest⟩
  | bool b => exact hv
  | int k n => exact hv
  | str l => exact hv
  | nilp => exact hv
  | nils => exact hv

theorem pure_SVR {σ σ' : Nat → Addr} {h h' : Heap} {w w' : World} {x : SV} {v : Value} (hp : pureS x = true) (hv : SVR σ h w x v) : SVR σ' h' w' x v := by
  cases x with
  | ptr b o e => simp [pureS] at hp
  | sl b o n c => simp [pureS] at hp
  | fn f caps =>
    have : caps = [] := by simpa [pureS] using hp
    subst this
    obtain ⟨vs, h1, h2, h3⟩ := hv
    exact ⟨vs, h1, h2, fun i p u hq => by simp at hq⟩
  | bool b => exact hv
  | int k n => exact hv
  | str l => exact hv
  | nilp => exact hv
  | nils => exact hv

theorem all2_pure {σ σ' : Nat → Addr} {h h' : Heap} {w w' : World} : ∀ {l : List SV} {m : List Value}, l.all pureS = true → All2 (SVR σ h w) l m → All2 (SVR σ' h' w') l m
  | [], [], _, _ => trivial
  | x :: l, v :: m, hp, ha => by
    simp only [List.all_cons, Bool.and_eq_true] at hp
    exact ⟨pure_SVR hp.1 ha.1, all2_pure hp.2 ha.2⟩
  | [], _ :: _, _, ha => ha.elim
  | _ :: _, [], _, ha => ha.elim

theorem pure_AVR {σ σ' : Nat → Addr} {h h' : Heap} {w w' : World} {x : AV} {v : Value} (hp : pureV x = true) (hv : AVR σ h w x v) : AVR σ' h' w' x v := by
  cases x with
  | sc x => exact pure_SVR hp hv
  | agg l => obtain ⟨cs, h1, h2⟩ := hv; exact ⟨cs, h1, all2_pure hp h2⟩
  | imm n l => simp [pureV] at hp
  | undef => simp [pureV] at hp

theorem all2_pureV {σ σ' : Nat → Addr} {h h' : Heap} {w w' : World} : ∀ {l : List AV} {m : List Value}, l.all pureV = true → All2 (AVR σ h w) l m → All2 (AVR σ' h' w') l m
  | [], [], _, _ => trivial
  | x :: l, v :: m, hp, ha => by
    simp only [List.all_cons, Bool.and_eq_true] at hp
    exact ⟨pure_AVR hp.1 ha.1, all2_pureV hp.2 ha.2⟩
  | [], _ :: _, _, ha => ha.elim
  | _ :: _, [], _, ha => ha.elim

theorem pure_TVR {σ σ' : Nat → Addr} {h h' : Heap} {w w' : World} {x : TV} {v : Value} (hp : pureT x = true) (hv : TVR σ h w x v) : TVR σ' h' w' x v := by
  match x, hp, hv with
  | [], _, _ => trivial
  | [x], hp, hv => exact pure_AVR (x := x) (by simpa [pureT] using hp) hv
  | x :: y :: l, hp, hv =>
    obtain ⟨vs, h1, h2⟩ := hv
    exact ⟨vs, h1, all2_pureV hp h2⟩

theorem trim_sim {σ σ' : Nat → Addr} {h h' : Heap} {w w' : World} {r : TV} {v : Value} (H : HR base σ h w) (H' : HR base σ' h' w') (E : Ext σ h w σ' h' w') (hv : TVR σ' h' w' r v) :
    HR base σ' (trim h h' r) w' ∧ Ext σ h w σ' (trim h h' r) w' ∧ TVR σ' (trim h h' r) w' r v := by
  unfold trim
  split
  · rename_i hc
    simp only [Bool.and_eq_true] at hc
    obtain ⟨hp, ho⟩ := hc
    obtain ⟨hlen, hold⟩ := okOld_get ho
    have cells : ∀ (j : Nat) (C : Blk), j < h.length → h'[j]? = some C → ∀ x ∈ C.c, belowS h.length x = true := fun j C hj hC x hx => by
      have hB := List.getElem?_eq_getElem hj
      rcases hold j h[j] C hB hC with hb | he
      · exact hb x hx
      · rw [← he] at hx
        obtain ⟨i, hi, rfl⟩ := List.mem_iff_getElem.1 hx
        obtain ⟨u, _, hu⟩ := H.read hB (List.getElem?_eq_getElem hi)
        exact hu.below
    have getT : ∀ (j : Nat) (C : Blk), (h'.take h.length)[j]? = some C → j < h.length ∧ h'[j]? = some C := fun j C hC => by
      have hj := lt_of_get hC
      simp at hj
      exact ⟨by omega, by rw [← take_get (n := h.length) (by omega)]; exact hC⟩
    refine ⟨⟨H'.size, fun j C hC => ?_, fun i j B C hB hC hk hk' he => H'.inj i j B C (getT i B hB).2 (getT j C hC).2 hk hk' he⟩, ⟨E.os, E.tape, E.output, E.size, E.far, E.rows, fun j B hB => ?_, fun c ⟨j, C, hC, hk, he⟩ => E.own c ⟨j, C, (getT j C hC).2, hk, he⟩⟩, pure_TVR hp hv⟩
    · obtain ⟨hj, hC'⟩ := getT j C hC
      have hb := H'.blk j C hC'
      have hcell := cells j C hj hC'
      unfold BlkR at hb ⊢
      split
      · rename_i hk
        simp only [hk] at hb
        refine ⟨hb.1, fun i x hx => ?_⟩
        obtain ⟨u, q1, q2⟩ := hb.2 i x hx
        exact ⟨u, q1, q2.take (hcell x (List.mem_of_getElem? hx))⟩
      · rename_i k hk
        obtain ⟨c, arr, e, fr, p1, p2, p3, p4, p5, p6, p7⟩ := H'.open_own hC' (fun e => hk e)
        exact ⟨c, arr, e, fr, p1, p2, p3, p4, p5, p6, fun i x hx => by obtain ⟨u, q1, q2⟩ := p7 i x hx; exact ⟨u, q1, q2.take (hcell x (List.mem_of_getElem? hx))⟩⟩
    · obtain ⟨B', hB', rest⟩ := E.grow j B hB
      exact ⟨B', by rw [take_get (lt_of_get hB)]; exact hB', rest⟩
  · exact ⟨H', E, hv⟩

theorem envFrom_get : ∀ (l : List TV) (i s : Nat), (envFrom i l).get s = if i ≤ s then (l[s - i]?).getD [] else []
  | [], i, s => by simp [envFrom, Env.get]
  | a :: l, i, s => by
    simp only [envFrom, get_cons]
    rw [envFrom_get l (i + 1) s]
    by_cases h1 : i = s
    · subst h1; simp
    · rw [if_neg h1]
      by_cases h2 : i + 1 ≤ s
      · rw [if_pos h2, if_pos (by omega)]
        have : s - i = (s - (i + 1)) + 1 := by omega
        rw [this]
        simp
      · rw [if_neg h2, if_neg (by omega)]

theorem enter_env {σ : Nat → Addr} {h : Heap} {w : World} {args : List TV} {vs : List Value} (ha : All2 (TVR σ h w) args vs) (k : Nat) : EnvR σ h w (envFrom 0 args) (vs.toArray ++ Array.replicate k undef) := fun s => by
  rw [envFrom_get]
  simp only [Nat.zero_le, if_true, Nat.sub_zero]
  cases hs : args[s]? with
  | none => trivial
  | some x =>
    obtain ⟨v, hv, hr⟩ := All2.get ha s x hs
    have hlt := lt_of_get hv
    have : (vs.toArray ++ Array.replicate k undef).getD s undef = v := by
      rw [Array.getD_eq_getD_getElem?, Array.getElem?_append_left (by simpa using hlt)]
      simp [hv]
    rw [this]
    exact hr

/-- what an oracle promises -/
def OrcOk (P : Program) (O : Orc) : Prop := ∀ f args r, O f args = some r → entOk P f = true ∧ pureT r = true ∧
  ∀ base σ h w (vs : List Value), HR base σ h w → All2 (TVR σ h w) args vs → Calls P f vs.toArray w fun e w' => ∃ v, e = .returned v ∧ RowKit.Below w.heap.size w w' ∧ TVR σ h w' r v

def FunsOk (P : Program) (F : Funs) : Prop := ∀ f a, F f = some a → okFun P f a = true

theorem okFun_spec {f : Nat} {af : AFun} (hk : okFun P f af = true) : ∃ fn c, P.funcs[f]? = some fn ∧ (fn.name == "runtime.NumGoroutine") = false ∧ fn.body = some c ∧ okCode P fn.ntmps af.body c = true ∧ okRes P fn.ntmps af.res fn.results.toList = true := by
  unfold okFun at hk
  split at hk
  · rename_i fn hf
    simp only [Bool.and_eq_true, Bool.not_eq_true'] at hk
    obtain ⟨⟨⟨h1, h2⟩, h3⟩, h4⟩ := hk
    split at h2
    · rename_i c hc
      exact ⟨fn, c, hf, h1, hc, h2, h3⟩
    · simp at h2
  · simp at hk

/-- the machine's theorem: what it computes, Go computes -/
theorem callA_sim {F : Funs} {O : Orc} (hF : FunsOk P F) (hO : OrcOk P O) (hm : Mixed P) : ∀ n, CallOk P (callA F O n)
  | 0 => fun f args h tv h' hr => by simp [callA] at hr
  | n + 1 => fun f args h tv h' hr => by
    simp only [callA] at hr
    split at hr
    · rename_i r hr'
      obtain ⟨rfl, rfl⟩ := some_pair hr
      obtain ⟨h1, h2, h3⟩ := hO f args r hr'
      refine ⟨h1, fun base σ w vs H ha => (h3 base σ h w vs H ha).mono fun e w' ⟨v, he, hb, hv⟩ => ?_⟩
      have E : Ext σ h w σ h w' := ⟨hb.os, hb.tape, hb.output, hb.size, fun c hc _ => hb.block c hc, fun c hc => rowSize_of (hb.block c hc), fun j B hB => ⟨B, hB, rfl, Nat.le_refl _, fun _ => rfl⟩, fun c hc => .inl hc⟩
      exact ⟨σ, v, he, H.ext_same E fun c hc => hb.block c hc, E, hv⟩
    · split at hr
      · contradiction
      · rename_i af haf
        obtain ⟨fn, c, hf, hn, hb, hcode, hres⟩ := okFun_spec (hF f af haf)
        have ih := callA_sim hF hO hm n
        have hent : entOk P f = true := by unfold entOk; rw [hf]; simp [hb, hn]
        refine ⟨hent, fun base σ w vs H ha => ?_⟩
        have S : St base σ h w (envFrom 0 args) fn.ntmps { tmps := vs.toArray ++ Array.replicate (fn.ntmps - vs.toArray.size) undef, defers := [] } :=
          ⟨H, enter_env ha _, rfl, by simp; omega⟩
        refine calls_of_wp hf hb ?_
        have fin : ∀ (e : Env) (h1 : Heap) (r : List AV), resA e h1 af.res = some r → h' = trim h h1 r → tv = r → ∀ σ' w' a', St base σ' h1 w' e fn.ntmps a' → Ext σ h w σ' h1 w' →
            (a'.defers = [] ∧ ∃ v, (results fn a'.tmps).run P w' = .ok v w' ∧ ∃ σ'' v', Ending.returned v = .returned v' ∧ HR base σ'' h' w' ∧ Ext σ h w σ'' h' w' ∧ TVR σ'' h' w' tv v') := fun e h1 r hr1 hh ht σ' w' a' S' E' => by
          obtain ⟨v, q1, q2⟩ := results_sim (fn := fn) S'.hr S'.env hres hr1
          obtain ⟨t1, t2, t3⟩ := trim_sim H S'.hr E' q2
          subst hh ht
          exact ⟨S'.defers, v, q1, σ', v, rfl, t1, t2, t3⟩
        split at hr
        · rename_i e h1 hrun
          split at hr
          · rename_i r hr1
            obtain ⟨rfl, rfl⟩ := some_pair hr
            exact runC_sim ih hm n hrun hcode S fun σ' w' a' S' E' => fin e h1 r hr1 rfl rfl σ' w' a' S' E'
          · contradiction
        · rename_i e h1 hrun
          split at hr
          · rename_i r hr1
            obtain ⟨rfl, rfl⟩ := some_pair hr
            exact runC_sim ih hm n hrun hcode S fun σ' w' a' S' E' => fin e h1 r hr1 rfl rfl σ' w' a' S' E'
          · contradiction
        · contradiction
end
end Go.Abs
