/- The abstract machine, part 14: its limit: calls and loops without fuel. -/
import Derived.Test.YtdodhmidhcpnnaaXD
set_option linter.unusedVariables false
set_option linter.unusedSimpArgs false
namespace Go.Abs

/-- 'at last', said of a family -/
structure Filt (ι : Type) where
  ev : (ι → Prop) → Prop
  tt : ∀ {p : ι → Prop}, (∀ i, p i) → ev p
  and : ∀ {p q r : ι → Prop}, ev p → ev q → (∀ i, p i → q i → r i) → ev r

variable {ι : Type}
theorem Filt.mono (Φ : Filt ι) {p q : ι → Prop} (h : Φ.ev p) (hpq : ∀ i, p i → q i) : Φ.ev q := Φ.and h h fun i h1 _ => hpq i h1

section
variable (Φ : Filt ι) {call : CallA} {c' : ι → CallA} {loopK : LoopK} {k' : ι → LoopK}

def Lifts (call : CallA) (c' : ι → CallA) : Prop := ∀ f a h x, call f a h = some x → Φ.ev fun i => c' i f a h = some x
def LiftsK (loopK : LoopK) (k' : ι → LoopK) : Prop := ∀ c e h x, loopK c e h = some x → Φ.ev fun i => k' i c e h = some x

variable {Φ}
theorem stepC_lift (hc : Lifts Φ call c') {op : AOp} {e : Env} {h : Heap} {x : TV × Heap} (hs : stepC call op e h = some x) : Φ.ev fun i => stepC (c' i) op e h = some x := by
  cases op with
  | call f args => exact hc _ _ _ _ hs
  | callv y args =>
    simp only [stepC] at hs ⊢
    split at hs
    · rename_i f caps hx
      split at hs
      · rename_i hf
        refine Φ.mono (hc _ _ _ _ hs) fun i hi => ?_
        simp only [hf, if_true]
        exact hi
      · contradiction
    · contradiction
  | _ => exact Φ.tt fun i => hs

theorem runOps_lift (hc : Lifts Φ call c') : ∀ (l : List AOper) (e : Env) (h : Heap) (x : Env × Heap), runOps call l e h = some x → Φ.ev fun i => runOps (c' i) l e h = some x
  | [], e, h, x, hs => Φ.tt fun i => hs
  | o :: l, e, h, x, hs => by
    simp only [runOps] at hs ⊢
    split at hs
    · split at hs
      · rename_i tv h1 hst
        refine Φ.and (stepC_lift hc hst) (runOps_lift hc l _ _ _ hs) fun i h1 h2 => ?_
        simp only [h1]
        exact h2
      · contradiction
    · exact runOps_lift hc l _ _ _ hs
    · contradiction

theorem runT_lift (hc : Lifts Φ call c') : ∀ (l : List (AOper × DM)) (e : Env) (h : Heap) (x : Env × Heap × List Heap × List Chk), runT call l e h = some x → Φ.ev fun i => runT (c' i) l e h = some x
  | [], e, h, x, hs => Φ.tt fun i => hs
  | (o, d) :: l, e, h, x, hs => by
    simp only [runT] at hs ⊢
    split at hs
    · split at hs
      · rename_i tv h1 hst
        split at hs
        · rename_i e2 h2 hs2 cs2 hrun
          refine Φ.and (stepC_lift hc hst) (runT_lift hc l _ _ _ hrun) fun i g1 g2 => ?_
          simp only [g1, g2]
          exact hs
        · contradiction
      · contradiction
    · split at hs
      · rename_i e2 h2 hs2 cs2 hrun
        refine Φ.mono (runT_lift hc l _ _ _ hrun) fun i g2 => ?_
        simp only [g2]
        exact hs
      · contradiction
    · contradiction

theorem all_lift {α : Type} {p : α → Bool} {p' : ι → α → Bool} (hp : ∀ a, p a = true → Φ.ev fun i => p' i a = true) : ∀ (l : List α), l.all p = true → Φ.ev fun i => l.all (p' i) = true
  | [], _ => Φ.tt fun i => rfl
  | a :: l, hl => by
    simp only [List.all_cons, Bool.and_eq_true] at hl ⊢
    exact Φ.and (hp a hl.1) (all_lift hp l hl.2) fun i h1 h2 => ⟨h1, h2⟩

theorem chkOk_lift (hc : Lifts Φ call c') (hs : List Heap) (c : Chk) (hk : chkOk call hs c = true) : Φ.ev fun i => chkOk (c' i) hs c = true := by
  unfold chkOk at hk ⊢
  refine all_lift (fun t ht => ?_) _ hk
  split at ht
  · split at ht
    · rename_i tv h' hst
      refine Φ.mono (stepC_lift hc hst) fun i hi => ?_
      simp only [hi]
      exact ht
    · simp at ht
  · simp at ht

theorem runDr_lift (hc : Lifts Φ call c') (l : List (AOper × DM)) (e : Env) (h : Heap) (x : Env × Heap) (hs : runDr call l e h = some x) : Φ.ev fun i => runDr (c' i) l e h = some x := by
  unfold runDr at hs ⊢
  split at hs
  · rename_i e2 h2 hs2 cs2 hrun
    split at hs
    · rename_i hcs
      refine Φ.and (runT_lift hc l _ _ _ hrun) (all_lift (fun c hk => chkOk_lift hc hs2 c hk) _ hcs) fun i g1 g2 => ?_
      simp only [g1, g2, if_true]
      exact hs
    · contradiction
  · contradiction

theorem runL_lift (hc : Lifts Φ call c') (hk : LiftsK Φ loopK k') : ∀ (c : ACode) (e : Env) (h : Heap) (x : AEx × Env × Heap), runL call loopK c e h = some x → Φ.ev fun i => runL (c' i) (k' i) c e h = some x := by
  intro c
  induction c with
  | stuck => exact fun e h x hs => by simp [runL] at hs
  | skip => exact fun e h x hs => Φ.tt fun i => hs
  | exit id => exact fun e h x hs => Φ.tt fun i => hs
  | ret => exact fun e h x hs => Φ.tt fun i => hs
  | reg d l ks =>
    intro e h x hs
    simp only [runL] at hs ⊢
    split at hs
    · rename_i e1 h1 hro
      refine Φ.mono (runOps_lift hc _ _ _ _ hro) fun i g => ?_
      simp only [g]
      exact hs
    · contradiction
  | regd l ks =>
    intro e h x hs
    simp only [runL] at hs ⊢
    split at hs
    · rename_i e1 h1 hro
      refine Φ.mono (runDr_lift hc _ _ _ _ hro) fun i g => ?_
      simp only [g]
      exact hs
    · contradiction
  | seq a b iha ihb =>
    intro e h x hs
    simp only [runL] at hs ⊢
    split at hs
    · rename_i e1 h1 hro
      refine Φ.and (iha _ _ _ hro) (ihb _ _ _ hs) fun i g1 g2 => ?_
      simp only [g1]
      exact g2
    · rename_i j e1 h1 hro
      refine Φ.mono (iha _ _ _ hro) fun i g => ?_
      simp only [g]
      exact hs
    · rename_i e1 h1 hro
      refine Φ.mono (iha _ _ _ hro) fun i g => ?_
      simp only [g]
      exact hs
    · contradiction
  | cond y a b iha ihb =>
    intro e h x hs
    simp only [runL] at hs ⊢
    split at hs
    · rename_i t ht
      split at hs
      · rename_i htt
        refine Φ.mono (iha _ _ _ hs) fun i g => ?_
        simp only [htt, if_true]
        exact g
      · rename_i htt
        refine Φ.mono (ihb _ _ _ hs) fun i g => ?_
        simp only [htt, if_false]
        exact g
    · contradiction
  | block id ks c ih =>
    intro e h x hs
    simp only [runL] at hs ⊢
    split at hs
    · rename_i e1 h1 hro
      refine Φ.mono (ih _ _ _ hro) fun i g => ?_
      simp only [g]
      exact hs
    · rename_i j e1 h1 hro
      refine Φ.mono (ih _ _ _ hro) fun i g => ?_
      simp only [g]
      exact hs
    · rename_i e1 h1 hro
      refine Φ.mono (ih _ _ _ hro) fun i g => ?_
      simp only [g]
      exact hs
    · contradiction
  | loop ks c ih =>
    intro e h x hs
    simp only [runL] at hs ⊢
    split at hs
    · rename_i e1 h1 hro
      refine Φ.and (ih _ _ _ hro) (hk _ _ _ _ hs) fun i g1 g2 => ?_
      simp only [g1]
      exact g2
    · rename_i j e1 h1 hro
      refine Φ.mono (ih _ _ _ hro) fun i g => ?_
      simp only [g]
      exact hs
    · rename_i e1 h1 hro
      refine Φ.mono (ih _ _ _ hro) fun i g => ?_
      simp only [g]
      exact hs
    · contradiction
end

-- fuel only helps
def filt1 : Filt Unit := ⟨fun p => p (), fun h => h (), fun h1 h2 h => h () h1 h2⟩

theorem runC_mono {call call' : CallA} (hc : ∀ f a h x, call f a h = some x → call' f a h = some x) : ∀ (n m : Nat), n ≤ m → ∀ c e h x, runC call n c e h = some x → runC call' m c e h = some x := by
  intro n
  induction n with
  | zero =>
    intro m _ c e h x hs
    cases m with
    | zero => exact runL_lift (Φ := filt1) (c' := fun _ => call') (k' := fun _ _ _ _ => none) hc (fun _ _ _ _ h => by simp at h) c e h x hs
    | succ m => exact runL_lift (Φ := filt1) (c' := fun _ => call') (k' := fun _ => runC call' m) hc (fun _ _ _ _ h => by simp at h) c e h x hs
  | succ n ih =>
    intro m hm c e h x hs
    cases m with
    | zero => omega
    | succ m => exact runL_lift (Φ := filt1) (c' := fun _ => call') (k' := fun _ => runC call' m) hc (fun c e h x h' => ih m (by omega) c e h x h') c e h x hs

section
variable {F : Funs} {O : Orc}

theorem callA_succ : ∀ (n : Nat) f a h x, callA F O n f a h = some x → callA F O (n + 1) f a h = some x
  | 0, f, a, h, x, hs => by simp [callA] at hs
  | n + 1, f, a, h, x, hs => by
    rw [callA] at hs ⊢
    split at hs
    · exact hs
    · split at hs
      · contradiction
      · rename_i fn hf
        split at hs
        · rename_i e h1 hrun
          rw [runC_mono (callA_succ n) n (n + 1) (by omega) _ _ _ _ hrun]
          exact hs
        · rename_i e h1 hrun
          rw [runC_mono (callA_succ n) n (n + 1) (by omega) _ _ _ _ hrun]
          exact hs
        · contradiction

theorem callA_mono {n m : Nat} (h : n ≤ m) {f a hp x} (hs : callA F O n f a hp = some x) : callA F O m f a hp = some x := by
  induction m with
  | zero => have : n = 0 := by omega
            subst this; exact hs
  | succ m ih =>
    by_cases he : n = m + 1
    · subst he; exact hs
    · exact callA_succ m _ _ _ _ (ih (by omega))

open Classical in
/-- calls without fuel -/
noncomputable def callE (F : Funs) (O : Orc) : CallA := fun f a h => if hx : ∃ x, ∃ n, callA F O n f a h = some x then some hx.choose else none

open Classical in
/-- loops without fuel -/
noncomputable def loopE (F : Funs) (O : Orc) : LoopK := fun c e h => if hx : ∃ x, ∃ n, runC (callA F O n) n c e h = some x then some hx.choose else none

theorem callE_of_A {n f a h x} (hs : callA F O n f a h = some x) : callE F O f a h = some x := by
  unfold callE
  have hx : ∃ x, ∃ n, callA F O n f a h = some x := ⟨x, n, hs⟩
  rw [dif_pos hx]
  obtain ⟨m, hm⟩ := hx.choose_spec
  have h1 := callA_mono (Nat.le_max_left n m) hs
  have h2 := callA_mono (Nat.le_max_right n m) hm
  rw [h1] at h2
  injection h2 with h2
  rw [h2]

theorem callE_A {f a h x} (hs : callE F O f a h = some x) : ∃ n, callA F O n f a h = some x := by
  unfold callE at hs
  split at hs
  · rename_i hx
    injection hs with hs
    obtain ⟨m, hm⟩ := hx.choose_spec
    exact ⟨m, by rw [← hs]; exact hm⟩
  · contradiction

theorem loopE_of_C {n c e h x} (hs : runC (callA F O n) n c e h = some x) : loopE F O c e h = some x := by
  unfold loopE
  have hx : ∃ x, ∃ n, runC (callA F O n) n c e h = some x := ⟨x, n, hs⟩
  rw [dif_pos hx]
  obtain ⟨m, hm⟩ := hx.choose_spec
  have h1 := runC_mono (fun f a h x => callA_mono (Nat.le_max_left n m)) _ _ (Nat.le_max_left n m) _ _ _ _ hs
  have h2 := runC_mono (fun f a h x => callA_mono (Nat.le_max_right n m)) _ _ (Nat.le_max_right n m) _ _ _ _ hm
  rw [h1] at h2
  injection h2 with h2
  rw [h2]

theorem loopE_C {c e h x} (hs : loopE F O c e h = some x) : ∃ n, runC (callA F O n) n c e h = some x := by
  unfold loopE at hs
  split at hs
  · rename_i hx
    injection hs with hs
    obtain ⟨m, hm⟩ := hx.choose_spec
    exact ⟨m, by rw [← hs]; exact hm⟩
  · contradiction

def filtN : Filt Nat := ⟨fun p => ∃ n, ∀ m, n ≤ m → p m, fun h => ⟨0, fun m _ => h m⟩, fun ⟨a, ha⟩ ⟨b, hb⟩ h => ⟨max a b, fun m hm => h m (ha m (by omega)) (hb m (by omega))⟩⟩

theorem liftE : Lifts filtN (callE F O) (fun n => callA F O n) := fun f a h x hs => by
  obtain ⟨n, hn⟩ := callE_A hs
  exact ⟨n, fun m hm => callA_mono hm hn⟩

theorem liftKE : LiftsK filtN (loopE F O) (fun n => runC (callA F O n) n) := fun c e h x hs => by
  obtain ⟨n, hn⟩ := loopE_C hs
  exact ⟨n, fun m hm => runC_mono (fun f a h x => callA_mono hm) _ _ hm _ _ _ _ hn⟩

noncomputable abbrev runE (F : Funs) (O : Orc) : ACode → Env → Heap → Option (AEx × Env × Heap) := runL (callE F O) (loopE F O)

theorem runE_C {c e h x} (hs : runE F O c e h = some x) : ∃ n, runC (callA F O n) n c e h = some x := by
  obtain ⟨n, hn⟩ := runL_lift liftE liftKE c e h x hs
  have := hn n (Nat.le_refl _)
  exact ⟨n + 1, runC_mono (callA_succ n) (n + 1) (n + 1) (Nat.le_refl _) _ _ _ _ (show runC (callA F O n) (n + 1) c e h = some x from this)⟩

/-- one more round -/
theorem loopE_round {ks c e h x} (hs : runE F O (.loop ks c) e h = some x) : loopE F O (.loop ks c) e h = some x := by
  obtain ⟨n, hn⟩ := runE_C hs
  exact loopE_of_C hn

theorem callE_of {f args h fn x e h' r} (ho : O f args = none) (hf : F f = some fn) (hr : runE F O fn.body (envFrom 0 args) h = some (x, e, h')) (hx : x = .normal ∨ x = .ret) (hres : resA e h' fn.res = some r) :
    callE F O f args h = some (r, trim h h' r) := by
  obtain ⟨n, hn⟩ := runE_C hr
  refine callE_of_A (n := n + 1) ?_
  rw [callA, ho]
  simp only [hf]
  rw [hn]
  rcases hx with rfl | rfl <;> simp only [hres]

theorem callE_orc {f args h r} (ho : O f args = some r) : callE F O f args h = some (r, h) := callE_of_A (n := 1) (by rw [callA, ho])

/-- what the limit computes, Go computes -/
theorem callE_ok {P : Program} (hF : FunsOk P F) (hO : OrcOk P O) (hm : Mixed P) : CallOk P (callE F O) := fun f args h tv h' hs => by
  obtain ⟨n, hn⟩ := callE_A hs
  exact callA_sim hF hO hm n f args h tv h' hn
end

-- the functions of a program, and oracles
def look (tab : List (Nat × AFun)) (f : Nat) : Option AFun :=
  match tab with
  | [] => none
  | (k, a) :: r => if Nat.beq k f then some a else look r f

def AllOk (P : Program) : List (Nat × AFun) → Prop
  | [] => True
  | p :: r => okFun P p.1 p.2 = true ∧ AllOk P r

theorem funsOk_of {P : Program} : ∀ {tab : List (Nat × AFun)}, AllOk P tab → FunsOk P (look tab)
  | [], _ => fun f a h => by simp [look] at h
  | (k, b) :: r, hk => fun f a h => by
    simp only [look] at h
    split at h
    · rename_i he
      injection h with h
      subst h
      have := Nat.eq_of_beq_eq_true he
      subst this
      exact hk.1
    · exact funsOk_of hk.2 f a h

def noOrc : Orc := fun _ _ => none
theorem noOrc_ok {P : Program} : OrcOk P noOrc := fun f args r h => by simp [noOrc] at h

/-- closed answers, computed once upon the empty heap -/
def orcTab (tab : List (Nat × TV)) : Orc := fun f args => match args with
  | [] => (tab.find? fun p => Nat.beq p.1 f).map (·.2)
  | _ => none

theorem orcOk_of {P : Program} {F : Funs} {tab : List (Nat × TV)} (hF : FunsOk P F) (hm : Mixed P) (h : ∀ p ∈ tab, pureT p.2 = true ∧ ∃ n h', callA F noOrc n p.1 [] [] = some (p.2, h')) : OrcOk P (orcTab tab) := fun f args r hr => by
  unfold orcTab at hr
  split at hr
  · cases hq : tab.find? fun p => Nat.beq p.1 f with
    | none => rw [hq] at hr; simp at hr
    | some p =>
      rw [hq] at hr
      simp only [Option.map_some, Option.some.injEq] at hr
      subst hr
      have hb := List.find?_some hq
      have hf := Nat.eq_of_beq_eq_true hb
      subst hf
      obtain ⟨hp, n, h', hn⟩ := h p (List.mem_of_find?_eq_some hq)
      obtain ⟨hent, hcall⟩ := callA_sim hF noOrc_ok hm n _ _ _ _ _ hn
      refine ⟨hent, hp, fun base σ hh w vs H ha => ?_⟩
      have hvs : vs = [] := by cases vs with
        | nil => rfl
        | cons a b => exact ha.elim
      subst hvs
      have H0 : HR w.heap.size σ [] w := ⟨Nat.le_refl _, fun j B hB => by simp at hB, fun i j B C hB => by simp at hB⟩
      refine (hcall w.heap.size σ w [] H0 trivial).mono fun e w' ⟨σ', v, he, H', E, hv⟩ => ⟨v, he, ?_, pure_TVR hp hv⟩
      have far : ∀ c, c < w.heap.size → w'.heap[c]? = w.heap[c]? := fun c hc => E.far c hc fun ⟨j, B, hB, _⟩ => by simp at hB
      exact ⟨E.os, E.tape, E.output, E.size, far⟩
  · simp at hr

theorem known_of {P : Program} {F : Funs} {O : Orc} (hF : FunsOk P F) (hO : OrcOk P O) (hm : Mixed P) {f n : Nat} {r : TV} {h' : Heap} (hp : pureT r = true) (hn : callA F O n f [] [] = some (r, h')) (σ : Nat → Addr) (w : World) :
    Calls P f #[] w fun e w' => ∃ v, e = .returned v ∧ RowKit.Below w.heap.size w w' ∧ TVR σ [] w' r v := by
  obtain ⟨hent, hcall⟩ := callA_sim hF hO hm n _ _ _ _ _ hn
  have H0 : HR w.heap.size σ [] w := ⟨Nat.le_refl _, fun j B hB => by simp at hB, fun i j B C hB => by simp at hB⟩
  refine (hcall w.heap.size σ w [] H0 trivial).mono fun e w' ⟨σ', v, he, H', E, hv⟩ => ⟨v, he, ?_, pure_TVR hp hv⟩
  have far : ∀ c, c < w.heap.size → w'.heap[c]? = w.heap[c]? := fun c hc => E.far c hc fun ⟨j, B, hB, _⟩ => by simp at hB
  exact ⟨E.os, E.tape, E.output, E.size, far⟩

end Go.Abs
