/- The abstract machine, part 12: a region whose operations only look, in whatever order. -/
import Derived.Test.YtdodhmidhcpnnaaXB
set_option linter.unusedVariables false
set_option linter.unusedSimpArgs false
namespace Go.Abs

theorem quiet_heap {call : CallA} {op : AOp} (hq : quietOp op = true) {e : Env} {h h' : Heap} {tv : TV} (hs : stepC call op e h = some (tv, h')) : h' = h := by
  cases op <;> simp only [quietOp, Bool.false_eq_true] at hq <;> simp only [stepC, step] at hs
  all_goals first
    | exact (some_pair hs).2.symm
    | (repeat' split at hs) <;> first | contradiction | exact (some_pair hs).2.symm | (simp only [sc1] at hs; split at hs <;> first | contradiction | exact (some_pair hs).2.symm)

/-- one operation of the text's order, told -/
structure Told (call : CallA) (h : Heap) (ao : AOper) (e e' : Env) (tv : TV) : Prop where
  env : e' = put e ao.dst tv
  how : (guardOk ao.guard e = some true ∧ stepC call ao.op (envOf ao e) h = some (tv, h)) ∨ (guardOk ao.guard e = some false ∧ tv = [.undef])

theorem runOps_told {call : CallA} : ∀ (l : List AOper) (e e' : Env) (h h' : Heap), (∀ ao ∈ l, quietOp ao.op = true) → runOps call l e h = some (e', h') →
    h' = h ∧ ∃ (es : Nat → Env) (tv : Nat → TV), es 0 = e ∧ es l.length = e' ∧ ∀ (i : Nat) (ao : AOper), l[i]? = some ao → Told call h ao (es i) (es (i + 1)) (tv i)
  | [], e, e', h, h', _, hr => by
    simp only [runOps] at hr
    obtain ⟨rfl, rfl⟩ := some_pair hr
    exact ⟨rfl, fun _ => e, fun _ => [], rfl, rfl, fun i ao hi => by simp at hi⟩
  | ao :: l, e, e', h, h', hq, hr => by
    have step1 : ∃ tv0, Told call h ao e (put e ao.dst tv0) tv0 ∧ runOps call l (put e ao.dst tv0) h = some (e', h') := by
      simp only [runOps] at hr
      split at hr
      · rename_i hg
        split at hr
        · rename_i tv h1 hst
          have := quiet_heap (hq ao (by simp)) hst
          subst this
          exact ⟨tv, ⟨rfl, .inl ⟨hg, hst⟩⟩, hr⟩
        · contradiction
      · rename_i hg
        exact ⟨[.undef], ⟨rfl, .inr ⟨hg, rfl⟩⟩, hr⟩
      · contradiction
    obtain ⟨tv0, ht, hr'⟩ := step1
    obtain ⟨h1, es, tv, q1, q2, q3⟩ := runOps_told l _ e' h h' (fun a ha => hq a (by simp [ha])) hr'
    refine ⟨h1, fun i => match i with | 0 => e | i + 1 => es i, fun i => match i with | 0 => tv0 | i + 1 => tv i, rfl, q2, fun i a hi => ?_⟩
    cases i with
    | zero =>
      simp at hi
      subst hi
      simp only
      rw [q1]
      exact ht
    | succ i => exact q3 i a (by simpa using hi)

section
variable {P : Program} {base nt : Nat} {call : CallA}

/-- what 'okDraw' says -/
structure DrawOk (ops : Array Oper) (l : List AOper) : Prop where
  len : l.length = ops.size
  quiet : ∀ ao ∈ l, quietOp ao.op = true
  one : ∀ (i : Nat) (a : AOper), l[i]? = some a → a.rd.isSome = true ∧ ∃ d, a.dst = some d
  back : ∀ (i : Nat) (o : Oper), ops[i]? = some o → ∀ e ∈ o.after, Region.binds .any e = true → e.on < i
  apart : ∀ (i j : Nat) (a b : AOper) (d : Nat), i ≠ j → l[i]? = some a → l[j]? = some b → b.dst = some d → a.dst ≠ some d
  order : ∀ (i j : Nat) (a b : AOper) (o p : Oper) (d : Nat), i ≠ j → l[i]? = some a → l[j]? = some b → ops[i]? = some o → ops[j]? = some p → b.dst = some d → d ∈ sees a → if j < i then edge o j = true else edge p i = true

theorem okDraw_spec {ops : Array Oper} {l : List AOper} (hl : l.length = ops.size) (hk : okDraw ops.toList l = true) : DrawOk ops l := by
  unfold okDraw at hk
  rw [List.all_eq_true] at hk
  have get : ∀ i, i < l.length → ∃ a o, l[i]? = some a ∧ ops[i]? = some o := fun i hi => ⟨l[i], ops[i]'(by omega), List.getElem?_eq_getElem hi, Array.getElem?_eq_getElem (by omega)⟩
  have main : ∀ (i : Nat) (a : AOper) (o : Oper), l[i]? = some a → ops[i]? = some o → quietOp a.op = true ∧ a.rd.isSome = true ∧ a.dst.isSome = true ∧ (∀ e ∈ o.after, Region.binds .any e = true → e.on < i) ∧
      ∀ (j : Nat) (b : AOper) (p : Oper), i ≠ j → l[j]? = some b → ops[j]? = some p → b.dst ≠ a.dst ∧ ∀ d, b.dst = some d → d ∈ sees a → if j < i then edge o j = true else edge p i = true := by
    intro i a o ha ho
    have hi := lt_of_get ha
    have := hk i (List.mem_range.2 hi)
    rw [ha, Array.getElem?_toList, ho] at this
    simp only [Bool.and_eq_true, List.all_eq_true] at this
    obtain ⟨⟨⟨⟨h1, h2⟩, h3⟩, h4⟩, h5⟩ := this
    refine ⟨h1, h2, h3, fun e he hb => ?_, fun j b p hij hb hp => ?_⟩
    · have := Array.all_eq_true_iff_forall_mem.1 h4 e he
      simpa [hb] using this
    · have := h5 j (List.mem_range.2 (lt_of_get hb))
      rw [hb, Array.getElem?_toList, hp] at this
      have hne : Nat.beq i j = false := by
        cases hq : Nat.beq i j with
        | false => rfl
        | true => exact absurd (Nat.eq_of_beq_eq_true hq) hij
      simp only [hne, Bool.false_or, Bool.and_eq_true, bne_iff_ne, ne_eq] at this
      refine ⟨this.1, fun d hd hs => ?_⟩
      have h6 := this.2
      rw [hd] at h6
      simp only [Bool.or_eq_true, Bool.not_eq_true'] at h6
      rcases h6 with h6 | h6
      · exfalso
        have : (sees a).contains d = true := by simpa using hs
        rw [this] at h6
        simp at h6
      · split <;> rename_i hji <;> simp only [hji, if_true, if_false] at h6 <;> exact h6
  refine ⟨hl, fun ao hao => ?_, fun i a ha => ?_, fun i o ho => ?_, fun i j a b d hij ha hb hd he => ?_, fun i j a b o p d hij ha hb ho hp hd hs => ?_⟩
  · obtain ⟨i, hi, rfl⟩ := List.mem_iff_getElem.1 hao
    obtain ⟨a, o, ha, ho⟩ := get i hi
    rw [List.getElem?_eq_getElem hi] at ha
    injection ha with ha
    subst ha
    exact (main i _ o (List.getElem?_eq_getElem hi) ho).1
  · obtain ⟨a', o, ha', ho⟩ := get i (lt_of_get ha)
    have m := main i a o ha ho
    exact ⟨m.2.1, Option.isSome_iff_exists.1 m.2.2.1⟩
  · obtain ⟨a, o', ha, ho'⟩ := get i (by rw [hl]; exact (Array.getElem?_eq_some_iff.1 ho).1)
    rw [ho] at ho'
    injection ho' with ho'
    subst ho'
    exact (main i a o ha ho).2.2.2.1
  · obtain ⟨_, o, _, ho⟩ := get i (lt_of_get ha)
    obtain ⟨_, p, _, hp⟩ := get j (lt_of_get hb)
    exact ((main i a o ha ho).2.2.2.2 j b p hij hb hp).1 (hd.trans he.symm)
  · exact ((main i a o ha ho).2.2.2.2 j b p hij hb hp).2 d hd hs

/-- the temporaries while some of the operations are done -/
structure Mid (base nt : Nat) (ops : Array Oper) (l : List AOper) (tv : Nat → TV) (e : Env) (h : Heap) (listed : Array Bool) (a : Act) (w : World) : Prop where
  ex : ∃ σ, HR base σ h w ∧ ∀ s, (∀ (j : Nat) (b : AOper), l[j]? = some b → listed.getD j false = true → b.dst = some s → TVR σ h w (tv j) (a.tmps.getD s undef)) ∧
    ((∀ (j : Nat) (b : AOper), l[j]? = some b → listed.getD j false = true → b.dst ≠ some s) → TVR σ h w (e.get s) (a.tmps.getD s undef))
  defers : a.defers = []
  size : nt ≤ a.tmps.size
  lsize : listed.size = l.length
  closed : ∀ (j : Nat) (o : Oper), ops[j]? = some o → listed.getD j false = true → ∀ k, edge o k = true → listed.getD k false = true

theorem getD_tf (listed : Array Bool) (i : Nat) (hi : i < listed.size) : listed.getD i true = listed.getD i false := by simp [Array.getD, hi]

theorem ready_iff {ops : Array Oper} {listed : Array Bool} {i : Nat} (hs : listed.size = ops.size) : i ∈ Region.ready .any ops listed ↔ ∃ o, ops[i]? = some o ∧ listed.getD i false = false ∧ ∀ e ∈ o.after, Region.binds .any e = true → listed.getD e.on false = true := by
  unfold Region.ready
  rw [List.mem_filter, List.mem_range]
  constructor
  · rintro ⟨hi, hp⟩
    simp only [Bool.and_eq_true, Bool.not_eq_true'] at hp
    obtain ⟨h1, h2⟩ := hp
    rw [getD_tf listed i (by omega)] at h1
    refine ⟨ops[i], Array.getElem?_eq_getElem hi, h1, fun e he hb => ?_⟩
    rw [Array.getElem?_eq_getElem hi] at h2
    simp only [Option.map_some, Option.getD_some] at h2
    have := Array.all_eq_true_iff_forall_mem.1 h2 e he
    simpa [hb] using this
  · rintro ⟨o, ho, h1, h2⟩
    have hi := (Array.getElem?_eq_some_iff.1 ho).1
    refine ⟨hi, ?_⟩
    rw [getD_tf listed i (by omega), h1, ho]
    simp only [Bool.not_false, Bool.true_and, Option.map_some, Option.getD_some]
    rw [Array.all_eq_true_iff_forall_mem]
    intro e he
    cases hb : Region.binds .any e with
    | false => rfl
    | true => simpa using h2 e he hb

theorem all_listed {ops : Array Oper} {l : List AOper} (D : DrawOk ops l) {listed : Array Bool} (hs : listed.size = ops.size) (hr : Region.ready .any ops listed = []) : ∀ i, i < ops.size → listed.getD i false = true := by
  intro i
  induction i using Nat.strongRecOn with
  | _ i ih =>
    intro hi
    cases hb : listed.getD i false with
    | true => rfl
    | false =>
      exfalso
      have : i ∈ Region.ready .any ops listed := (ready_iff hs).2 ⟨ops[i], Array.getElem?_eq_getElem hi, hb, fun e he hbe => by
        have hlt := D.back i _ (Array.getElem?_eq_getElem hi) e he hbe
        exact ih e.on hlt (by omega)⟩
      rw [hr] at this
      simp at this

theorem edge_mem {o : Oper} {k : Nat} : edge o k = true ↔ ∃ e ∈ o.after, Region.binds .any e = true ∧ e.on = k := by
  unfold edge
  rw [← Array.any_toList, List.any_eq_true]
  simp only [Bool.and_eq_true, beq_iff_eq, Array.mem_toList_iff]

theorem es_get {h : Heap} {l : List AOper} {es : Nat → Env} {tv : Nat → TV} (ap : ∀ (i j : Nat) (a b : AOper) (d : Nat), i ≠ j → l[i]? = some a → l[j]? = some b → b.dst = some d → a.dst ≠ some d)
    (ht : ∀ (i : Nat) (ao : AOper), l[i]? = some ao → Told call h ao (es i) (es (i + 1)) (tv i)) (s : Nat) : ∀ (i : Nat), i ≤ l.length →
    (∀ (j : Nat) (b : AOper), j < i → l[j]? = some b → b.dst = some s → (es i).get s = tv j) ∧ ((∀ (j : Nat) (b : AOper), j < i → l[j]? = some b → b.dst ≠ some s) → (es i).get s = (es 0).get s)
  | 0, _ => ⟨fun j b hj => by omega, fun _ => rfl⟩
  | i + 1, hi => by
    obtain ⟨h1, h2⟩ := es_get ap ht s i (by omega)
    have hlt : i < l.length := by omega
    have T := ht i l[i] (List.getElem?_eq_getElem hlt)
    have step : (es (i + 1)).get s = if l[i].dst = some s then tv i else (es i).get s := by
      rw [T.env]
      unfold put
      cases hd : l[i].dst with
      | none => simp
      | some d =>
        simp only [get_cons, Option.some.injEq]
    refine ⟨fun j b hj hb hd => ?_, fun hn => ?_⟩
    · rw [step]
      by_cases hji : j = i
      · subst hji
        rw [List.getElem?_eq_getElem hlt] at hb
        injection hb with hb
        subst hb
        rw [if_pos hd]
      · rw [if_neg (ap i j l[i] b s (fun e => hji e.symm) (List.getElem?_eq_getElem hlt) hb hd)]
        exact h1 j b (by omega) hb hd
    · rw [step, if_neg (hn i l[i] (by omega) (List.getElem?_eq_getElem hlt))]
      exact h2 fun j b hj hb => hn j b (by omega) hb

def unl (listed : Array Bool) (n : Nat) : Nat := (List.range n).countP fun i => !listed.getD i false

theorem countP_lt {α : Type} {p q : α → Bool} : ∀ {l : List α}, l.Nodup → ∀ {x : α}, x ∈ l → p x = true → q x = false → (∀ y, y ≠ x → q y = p y) → l.countP p = l.countP q + 1
  | [], _, x, hx, _, _, _ => by simp at hx
  | y :: l, hn, x, hx, hp, hq, ho => by
    rw [List.countP_cons, List.countP_cons]
    rcases List.mem_cons.1 hx with rfl | hx
    · rw [hp, hq]
      have hnot : x ∉ l := (List.nodup_cons.1 hn).1
      have : l.countP p = l.countP q := List.countP_congr fun z hz => by rw [ho z (fun e => hnot (e ▸ hz))]
      simp [this]
    · have hne : y ≠ x := fun e => (List.nodup_cons.1 hn).1 (e ▸ hx)
      rw [countP_lt (List.nodup_cons.1 hn).2 hx hp hq ho, ho y hne]
      omega

theorem unl_step {listed : Array Bool} {n i : Nat} (hn : listed.size = n) (hi : i < n) (hl : listed.getD i false = false) : unl listed n = unl (listed.setIfInBounds i true) n + 1 := by
  refine countP_lt List.nodup_range (List.mem_range.2 hi) (by rw [hl]; rfl) ?_ fun y hy => ?_
  · simp [Array.getD, hn, hi]
  · simp only [Array.getD_eq_getD_getElem?]
    rw [Array.getElem?_setIfInBounds_ne (fun e => hy e.symm)]

theorem unl_zero {listed : Array Bool} {n : Nat} (h0 : unl listed n = 0) : ∀ i, i < n → listed.getD i false = true := fun i hi => by
  unfold unl at h0
  rw [List.countP_eq_zero] at h0
  have := h0 i (List.mem_range.2 hi)
  simpa using this

theorem set_getD (listed : Array Bool) (i j : Nat) (hi : i < listed.size) : (listed.setIfInBounds i true).getD j false = (if i = j then true else listed.getD j false) := by
  by_cases hij : i = j
  · subst hij; simp [Array.getD, hi]
  · rw [if_neg hij]
    simp only [Array.getD_eq_getD_getElem?]
    rw [Array.getElem?_setIfInBounds_ne hij]

theorem any_sim (hc : CallOk P call) {ops : Array Oper} {l : List AOper} (D : DrawOk ops l) (hk : okRow P nt ops l ops.toList = true) {h : Heap} {es : Nat → Env} {tv : Nat → TV} (ht : ∀ (i : Nat) (ao : AOper), l[i]? = some ao → Told call h ao (es i) (es (i + 1)) (tv i))
    {Q : Exit → Act → World → Prop} {σ0 : Nat → Addr} {w0 : World} (hQ : ∀ σ' w' a', St base σ' h w' (es l.length) nt a' → Ext σ0 h w0 σ' h w' → Q .normal a' w') (H0 : HR base σ0 h w0) : ∀ (fuel : Nat) (listed : Array Bool) (a : Act) (w : World), unl listed ops.size = fuel → Mid base nt ops l tv (es 0) h listed a w → (∀ σ', HR base σ' h w → True) →
    (∃ σ, HR base σ h w ∧ Ext σ0 h w0 σ h w ∧ ∀ s, (∀ (j : Nat) (b : AOper), l[j]? = some b → listed.getD j false = true → b.dst = some s → TVR σ h w (tv j) (a.tmps.getD s undef)) ∧
    ((∀ (j : Nat) (b : AOper), l[j]? = some b → listed.getD j false = true → b.dst ≠ some s) → TVR σ h w ((es 0).get s) (a.tmps.getD s undef))) →
    wpAny P .any ops Q fuel listed a w := by
  have fin : ∀ (listed : Array Bool) (a : Act) (w : World), (∀ i, i < ops.size → listed.getD i false = true) → Mid base nt ops l tv (es 0) h listed a w →
      (∃ σ, HR base σ h w ∧ Ext σ0 h w0 σ h w ∧ ∀ s, (∀ (j : Nat) (b : AOper), l[j]? = some b → listed.getD j false = true → b.dst = some s → TVR σ h w (tv j) (a.tmps.getD s undef)) ∧
      ((∀ (j : Nat) (b : AOper), l[j]? = some b → listed.getD j false = true → b.dst ≠ some s) → TVR σ h w ((es 0).get s) (a.tmps.getD s undef))) → Q .normal a w := by
    intro listed a w hall M hx
    obtain ⟨σ, H, E, hs⟩ := hx
    refine hQ σ w a ⟨H, fun s => ?_, M.defers, M.size⟩ E
    obtain ⟨g1, g2⟩ := es_get D.apart ht s l.length (Nat.le_refl _)
    by_cases hex : ∃ (j : Nat) (b : AOper), l[j]? = some b ∧ b.dst = some s
    · obtain ⟨j, b, hb, hd⟩ := hex
      rw [g1 j b (lt_of_get hb) hb hd]
      exact (hs s).1 j b hb (hall j (by rw [← D.len]; exact lt_of_get hb)) hd
    · rw [g2 fun j b _ hb hd => hex ⟨j, b, hb, hd⟩]
      exact (hs s).2 fun j b hb _ hd => hex ⟨j, b, hb, hd⟩
  intro fuel
  induction fuel with
  | zero =>
    intro listed a w hf M _ hx
    have hall := unl_zero hf
    refine ⟨?_, fin listed a w hall M hx⟩
    rw [List.eq_nil_iff_forall_not_mem]
    intro i hi
    obtain ⟨o, ho, h1, _⟩ := (ready_iff (by rw [M.lsize, D.len])).1 hi
    rw [hall i (Array.getElem?_eq_some_iff.1 ho).1] at h1
    simp at h1
  | succ fuel ih =>
    intro listed a w hf M _ hx
    have hsz : listed.size = ops.size := by rw [M.lsize, D.len]
    refine ⟨fun hr => fin listed a w (all_listed D hsz hr) M hx, fun i hi => ?_⟩
    obtain ⟨o, ho, hl, hedges⟩ := (ready_iff hsz).1 hi
    have hiops := (Array.getElem?_eq_some_iff.1 ho).1
    have hil : i < l.length := by rw [D.len]; exact hiops
    have hao := List.getElem?_eq_getElem hil
    generalize l[i] = ao at hao
    obtain ⟨hrl, hrow⟩ := okRow_get hk
    have hok := hrow i ao o hao (by rw [Array.getElem?_toList]; exact ho)
    obtain ⟨hdst, hdlt, hg⟩ := okAO_dst hok
    have T := ht i ao hao
    obtain ⟨σ, H, E, hs⟩ := hx
    -- what the operation sees reads as in the text's order
    have seen : ∀ s, s ∈ sees ao → TVR σ h w ((es i).get s) (a.tmps.getD s undef) := fun s hsee => by
      obtain ⟨g1, g2⟩ := es_get D.apart ht s i (by omega)
      by_cases hex : ∃ (j : Nat) (b : AOper), l[j]? = some b ∧ b.dst = some s ∧ j ≠ i
      · obtain ⟨j, b, hb, hd, hji⟩ := hex
        have hjl := lt_of_get hb
        have hp : ops[j]? = some (ops[j]'(by rw [← D.len]; exact hjl)) := Array.getElem?_eq_getElem _
        have ho' := D.order i j ao b o _ s (fun e => hji e.symm) hao hb ho hp hd hsee
        split at ho'
        · rename_i hlt
          rw [g1 j b hlt hb hd]
          obtain ⟨e, he, hbnd, hon⟩ := edge_mem.1 ho'
          exact (hs s).1 j b hb (by rw [← hon]; exact hedges e he hbnd) hd
        · rename_i hge
          have hjn : listed.getD j false = false := by
            cases hq : listed.getD j false with
            | false => rfl
            | true =>
              have := M.closed j _ hp hq i ho'
              rw [hl] at this
              simp at this
          have only : ∀ (k : Nat) (c : AOper), l[k]? = some c → c.dst = some s → k = j := fun k c hc hcd => by
            by_cases hkj : k = j
            · exact hkj
            · exact absurd hcd (D.apart k j c b s hkj hc hb hd)
          rw [g2 fun k c hk hc hcd => by have := only k c hc hcd; omega]
          exact (hs s).2 fun k c hc hkl hcd => by rw [only k c hc hcd, hjn] at hkl; simp at hkl
      · have none' : ∀ (k : Nat) (c : AOper), l[k]? = some c → c.dst = some s → k = i := fun k c hc hcd => by
          by_cases hki : k = i
          · exact hki
          · exact absurd ⟨k, c, hc, hcd, hki⟩ hex
        rw [g2 fun k c hk hc hcd => by have := none' k c hc hcd; omega]
        exact (hs s).2 fun k c hc hkl hcd => by rw [none' k c hc hcd, hl] at hkl; simp at hkl
    -- the environment that it is given
    have hrd := (D.one i ao hao).1
    obtain ⟨ks, hks⟩ := Option.isSome_iff_exists.1 hrd
    have henv : EnvR σ h w (envOf ao (es i)) a.tmps := fun s => by
      unfold envOf
      rw [hks]
      simp only
      by_cases hin : s ∈ ks
      · have hsee : s ∈ sees ao := by unfold sees; rw [hks]; exact List.mem_append_left _ hin
        rcases get_keep ks (es i) s with hgk | hgk
        · rw [hgk]; exact seen s hsee
        · rw [hgk]; trivial
      · have : (keep ks (es i)).get s = [] := by
          clear hks hsz
          induction ks with
          | nil => rfl
          | cons k ks ihk =>
            have e1 : keep (k :: ks) (es i) = (k, (es i).get k) :: keep ks (es i) := rfl
            rw [e1, get_cons, if_neg (fun e => hin (by simp [e]))]
            exact ihk (fun hh => hin (by simp [hh]))
        rw [this]
        trivial
    -- behind it
    have behind : ∀ σ' w' v, HR base σ' h w' → Ext σ h w σ' h w' → TVR σ' h w' (tv i) v → wpAny P .any ops Q fuel (listed.setIfInBounds i true) (a.put o.dst v) w' := fun σ' w' v H' E' hv => by
      have hu := unl_step hsz hiops hl
      have hrel : ∀ s, (∀ (j : Nat) (b : AOper), l[j]? = some b → (listed.setIfInBounds i true).getD j false = true → b.dst = some s → TVR σ' h w' (tv j) ((a.put o.dst v).tmps.getD s undef)) ∧
          ((∀ (j : Nat) (b : AOper), l[j]? = some b → (listed.setIfInBounds i true).getD j false = true → b.dst ≠ some s) → TVR σ' h w' ((es 0).get s) ((a.put o.dst v).tmps.getD s undef)) := fun s => by
        obtain ⟨d, hd⟩ := (D.one i ao hao).2
        have hod : o.dst = some d := by rw [← hdst]; exact hd
        have hdl : d < a.tmps.size := Nat.lt_of_lt_of_le (hdlt d hd) M.size
        have tmp : (a.put o.dst v).tmps.getD s undef = if d = s then v else a.tmps.getD s undef := by
          rw [hod]
          show (a.tmps.setIfInBounds d v).getD s undef = _
          by_cases hds : d = s
          · subst hds; simp [Array.getD, hdl]
          · rw [if_neg hds]
            simp only [Array.getD_eq_getD_getElem?]
            rw [Array.getElem?_setIfInBounds_ne hds]
        rw [tmp]
        refine ⟨fun j b hb hj hbd => ?_, fun hn => ?_⟩
        · rw [set_getD listed i j (by omega)] at hj
          by_cases hij : i = j
          · subst hij
            rw [hao] at hb
            injection hb with hb
            subst hb
            rw [hd] at hbd
            injection hbd with hbd
            rw [if_pos hbd]
            exact hv
          · rw [if_neg hij] at hj
            have hne : d ≠ s := fun e => D.apart i j ao b s hij hao hb hbd (by rw [hd, e])
            rw [if_neg hne]
            exact TVR.ext H E' ((hs s).1 j b hb hj hbd)
        · have hne : d ≠ s := fun e => hn i ao hao (by rw [set_getD listed i i (by omega)]; simp) (by rw [hd, e])
          rw [if_neg hne]
          refine TVR.ext H E' ((hs s).2 fun j b hb hj hbd => hn j b hb ?_ hbd)
          rw [set_getD listed i j (by omega)]
          split
          · rfl
          · exact hj
      refine ih _ _ _ (by omega) ⟨⟨σ', H', hrel⟩, by rw [put_defers']; exact M.defers, by rw [put_size']; exact M.size, by simp [M.lsize], fun j p hp hj k hek => ?_⟩ (fun _ _ => trivial) ⟨σ', H', E.trans E', hrel⟩
      rw [set_getD listed i j (by omega)] at hj
      rw [set_getD listed i k (by omega)]
      by_cases hik : i = k
      · rw [if_pos hik]
      · rw [if_neg hik]
        by_cases hij : i = j
        · subst hij
          rw [ho] at hp
          injection hp with hp
          subst hp
          obtain ⟨e, he, hbnd, hon⟩ := edge_mem.1 hek
          rw [← hon]
          exact hedges e he hbnd
        · rw [if_neg hij] at hj
          exact M.closed j p hp hj k hek
    -- the operation
    have genv : ∀ b, guardOk ao.guard (es i) = some b → Region.wanted o (yielded ops a.tmps) = b := fun b hb => by
      have hgE : EnvR σ h w (keep (match ao.guard with | some (s, _) => [s] | none => []) (es i)) a.tmps := fun s => by
        cases hgd : ao.guard with
        | none => exact trivial
        | some sb =>
          obtain ⟨s0, b0⟩ := sb
          simp only
          have e1 : keep [s0] (es i) = [(s0, (es i).get s0)] := rfl
          rw [e1, get_cons]
          by_cases h0 : s0 = s
          · subst h0
            rw [if_pos rfl]
            exact seen s0 (by unfold sees; rw [hgd]; exact List.mem_append_right _ (by simp))
          · rw [if_neg h0]; trivial
      refine guard_wanted hg hgE ?_
      cases hgd : ao.guard with
      | none => rw [hgd] at hb; exact hb
      | some sb =>
        obtain ⟨s0, b0⟩ := sb
        rw [hgd] at hb
        simp only [guardOk] at hb ⊢
        have e1 : keep [s0] (es i) = [(s0, (es i).get s0)] := rfl
        rw [e1, get_cons, if_pos rfl]
        exact hb
    unfold wpOp
    rw [ho]
    simp only
    rcases T.how with ⟨hgo, hst⟩ | ⟨hgo, hnil⟩
    · rw [if_pos (genv true hgo)]
      refine .inl ?_
      have S : St base σ h w [] nt a := ⟨H, fun s => trivial, M.defers, M.size⟩
      exact op_sim hc S hok henv hst fun σ' w' v S' E' hv => behind σ' w' v S'.hr E' hv
    · rw [if_neg (by rw [genv false hgo]; simp)]
      exact behind σ w undef H (Ext.refl _ _ _) (by rw [hnil]; rfl)

/-- a region whose order is drawn -/
theorem draw_sim (hc : CallOk P call) (hm : P.follows .mixedOrders = true) {ops : Array Oper} {l : List AOper} (hk : okRow P nt ops l ops.toList = true) (hd : okDraw ops.toList l = true) {e e' : Env} {h h' : Heap} {σ : Nat → Addr} {w : World} {a : Act} {id : Nat} {Q : Exit → Act → World → Prop}
    (hr : runOps call l e h = some (e', h')) (S : St base σ h w e nt a) (hQ : ∀ σ' w' a', St base σ' h' w' e' nt a' → Ext σ h w σ' h' w' → Q .normal a' w') : (Code.region id ops true).wp P Q a w := by
  have hl : l.length = ops.size := by have := (okRow_get hk).1; simpa using this
  have D := okDraw_spec hl hd
  obtain ⟨rfl, es, tv, q1, q2, ht⟩ := runOps_told l e e' h h' D.quiet hr
  refine wp_region_any hm ?_
  have hw : ({ w with drawn := w.drawn + 1 } : World) = w.drew := rfl
  rw [hw]
  have hrep : ∀ i, (Array.replicate ops.size false).getD i false = false := fun i => by
    simp only [Array.getD_eq_getD_getElem?, Array.getElem?_replicate]
    split <;> rfl
  have hrel : ∀ s, (∀ (j : Nat) (b : AOper), l[j]? = some b → (Array.replicate ops.size false).getD j false = true → b.dst = some s → TVR σ h' w.drew (tv j) (a.tmps.getD s undef)) ∧
      ((∀ (j : Nat) (b : AOper), l[j]? = some b → (Array.replicate ops.size false).getD j false = true → b.dst ≠ some s) → TVR σ h' w.drew ((es 0).get s) (a.tmps.getD s undef)) := fun s =>
    ⟨fun j b _ hj => by rw [hrep] at hj; simp at hj, fun _ => by rw [q1]; exact TVR.ext S.hr Ext.drew (S.env s)⟩
  refine any_sim hc D hk ht (σ0 := σ) (w0 := w.drew) (fun σ' w' a' S' E' => ?_) S.hr.drew ops.size _ a w.drew ?_ ⟨⟨σ, S.hr.drew, hrel⟩, S.defers, S.size, by simp [hl], fun j o _ hj => by rw [hrep] at hj; simp at hj⟩ (fun _ _ => trivial) ⟨σ, S.hr.drew, Ext.refl _ _ _, hrel⟩
  · rw [q2] at S'
    exact hQ σ' w' a' S' ((Ext.drew (σ := σ) (h := h') (w := w)).trans E')
  · unfold unl
    rw [List.countP_eq_length.2 fun i _ => by rw [hrep]; rfl]
    simp
end
end Go.Abs
