/- The abstract machine, part 2: what a new block, a store, an append do to a world and the abstract heap that it bears. -/
import Derived.Test.YtdodhmidhcpnnaaX1
set_option linter.unusedVariables false
set_option linter.unusedSimpArgs false
namespace Go.Abs

theorem cell_add0 (c i : Nat) : (⟨c, 0, none⟩ : Addr).add i = ⟨c, i, none⟩ := by unfold Addr.add; split <;> simp_all

def upd {α : Type} (σ : Nat → α) (j : Nat) (a : α) : Nat → α := fun k => if k = j then a else σ k
@[simp] theorem upd_same {α : Type} (σ : Nat → α) (j : Nat) (a : α) : upd σ j a j = a := by simp [upd]
theorem upd_other {α : Type} (σ : Nat → α) {j k : Nat} (a : α) (h : k ≠ j) : upd σ j a k = σ k := by simp [upd, h]

theorem rowSize_of {w w' : World} {c : Nat} (h : w'.heap[c]? = w.heap[c]?) : rowSize w' c = rowSize w c := by unfold rowSize; rw [h]

theorem SVR.one {σ : Nat → Addr} {h : Heap} {w : World} {x : SV} {v : Value} (hv : SVR σ h w x v) : v.oneCell' = true := by
  cases x with
  | bool b => rw [show v = .bool b from hv]; rfl
  | int k n => rw [show v = .int k n from hv]; rfl
  | str l => rw [show v = .string ⟨l.toArray⟩ from hv]; rfl
  | nilp => rw [show v = .pointer none from hv]; rfl
  | nils => rw [show v = .slice none 0 0 from hv]; rfl
  | ptr b o e => exact hv.choose_spec.2.2.1
  | sl b o n c => exact hv.choose_spec.2.2.1
  | fn f caps => obtain ⟨vs, h1, _⟩ := hv; rw [h1]; rfl

section
variable {base : Nat} {σ σ' : Nat → Addr} {h h' : Heap} {w w' : World}

/-- a block that nothing has touched -/
theorem BlkR.keep (H : HR base σ h w) (E : Ext σ h w σ' h' w') {j : Nat} {B : Blk} (hb : BlkR base σ h w j B) (hw : (B.k = .ro → 0 < B.c.length) → w'.heap[(σ j).block]? = w.heap[(σ j).block]?) (hs : σ' j = σ j) : BlkR base σ' h' w' j B := by
  unfold BlkR at hb ⊢
  split
  · rename_i hk
    simp only [hk] at hb
    refine ⟨by rw [hs]; exact hb.1, fun i x hx => ?_⟩
    obtain ⟨v, hc, hv⟩ := hb.2 i x hx
    refine ⟨v, ?_, SVR.ext H E hv⟩
    rw [hs]
    exact (World.cell?_of_block (w := w) (a := (σ j).add i) (by rw [block_add]; exact hw fun _ => by have := (List.getElem?_eq_some_iff.1 hx).1; omega)).trans hc
  · rename_i k hk
    simp only at hb
    obtain ⟨c, arr, e, fr, h1, h2, h3, h4, h5, h6, h7⟩ := (by simpa [hk] using hb : ∃ c arr e fr, σ j = ⟨c, 0, none⟩ ∧ base ≤ c ∧ w.heap[c]? = some (.cells arr e fr) ∧ thawed fr arr.size ∧ B.c.length ≤ arr.size ∧
      (∀ e' sz, B.k = .row e' sz → e = e' ∧ fr = (0, 0) ∧ 0 < sz) ∧
      ∀ (i : Nat) (x : SV), B.c[i]? = some x → ∃ v, arr[i]? = some v ∧ SVR σ h w x v)
    refine ⟨c, arr, e, fr, by rw [hs, h1], h2, ?_, h4, h5, h6, fun i x hx => ?_⟩
    · have hw := hw fun e => (hk e).elim
      rw [h1] at hw
      exact hw.trans h3
    · obtain ⟨v, hv, hr⟩ := h7 i x hx
      exact ⟨v, hv, SVR.ext H E hr⟩

theorem Ext.drew : Ext σ h w σ h w.drew := ⟨rfl, rfl, rfl, Nat.le_refl _, fun _ _ _ => rfl, fun _ _ => rfl, fun _ B hB => ⟨B, hB, rfl, Nat.le_refl _, fun _ => rfl⟩, fun _ hc => .inl hc⟩
theorem HR.ext_same (H : HR base σ h w) (E : Ext σ h w σ h w') (hw : ∀ c, c < w.heap.size → w'.heap[c]? = w.heap[c]?) : HR base σ h w' where
  size := Nat.le_trans H.size E.size
  blk := fun j B hB => by
    refine (H.blk j B hB).keep H E (fun hne => hw _ ?_) rfl
    by_cases hk : B.k = .ro
    · have hb := H.blk j B hB
      unfold BlkR at hb
      simp only [hk] at hb
      exact Nat.lt_of_lt_of_le (hb.1 (hne hk)) H.size
    · exact H.own_block hB hk
  inj := H.inj
theorem HR.drew (H : HR base σ h w) : HR base σ h w.drew := H.ext_same Ext.drew fun _ _ => rfl

/-- a new block that the abstract heap does not tell of -/
theorem Ext.junk (H : HR base σ h w) (o : Obj) : Ext σ h w σ h (w.alloc o) :=
  ⟨rfl, rfl, rfl, by simp, fun c hc _ => heap_alloc_old w o c hc, fun c hc => rowSize_of (heap_alloc_old w o c hc), fun _ B hB => ⟨B, hB, rfl, Nat.le_refl _, fun _ => rfl⟩, fun _ hc => .inl hc⟩
theorem HR.junk (H : HR base σ h w) (o : Obj) : HR base σ h (w.alloc o) := H.ext_same (Ext.junk H o) fun c hc => heap_alloc_old w o c hc

theorem getElem?_snoc {α : Type} (l : List α) (x : α) : (l ++ [x])[l.length]? = some x := by simp
theorem getElem?_snoc_lt {α : Type} {l : List α} {x : α} {j : Nat} {y : α} (h : (l ++ [x])[j]? = some y) : l[j]? = some y ∨ (j = l.length ∧ y = x) := by
  rcases Nat.lt_trichotomy j l.length with hj | hj | hj
  · rw [List.getElem?_append_left hj] at h; exact .inl h
  · subst hj; simp at h; exact .inr ⟨rfl, h.symm⟩
  · rw [List.getElem?_append_right (by omega)] at h
    have : j - l.length ≠ 0 := by omega
    obtain ⟨m, hm⟩ := Nat.exists_eq_succ_of_ne_zero this
    rw [hm] at h; simp at h
theorem lt_of_get {α : Type} {l : List α} {j : Nat} {y : α} (h : l[j]? = some y) : j < l.length := (List.getElem?_eq_some_iff.1 h).1

/-- a new block, told of as block number 'h.length' -/
theorem Ext.alloc (H : HR base σ h w) (B : Blk) (hk : B.k ≠ .ro) (o : Obj) : Ext σ h w (upd σ h.length ⟨w.heap.size, 0, none⟩) (h ++ [B]) (w.alloc o) where
  os := rfl
  tape := rfl
  output := rfl
  size := by simp
  far := fun c hc _ => heap_alloc_old w o c hc
  rows := fun c hc => rowSize_of (heap_alloc_old w o c hc)
  grow := fun j C hC => ⟨C, by rw [List.getElem?_append_left (lt_of_get hC)]; exact hC, rfl, Nat.le_refl _, fun _ => upd_other _ _ (by have := lt_of_get hC; omega)⟩
  own := fun c ⟨j, C, hC, hk', he⟩ => by
    rcases getElem?_snoc_lt hC with h1 | ⟨rfl, rfl⟩
    · rw [upd_other _ _ (by have := lt_of_get h1; omega)] at he
      exact .inl ⟨j, C, h1, hk', he⟩
    · rw [upd_same] at he
      subst he
      exact .inr (Nat.le_refl _)

theorem HR.alloc (H : HR base σ h w) (B : Blk) (hk : B.k ≠ .ro) (arr : Array Value) (e : TypeId) (fr : Nat × Nat) (hfr : thawed fr arr.size) (hlen : B.c.length ≤ arr.size)
    (hrow : ∀ e' sz, B.k = .row e' sz → e = e' ∧ fr = (0, 0) ∧ 0 < sz) (hc : ∀ (i : Nat) (x : SV), B.c[i]? = some x → ∃ v, arr[i]? = some v ∧ SVR σ h w x v) :
    HR base (upd σ h.length ⟨w.heap.size, 0, none⟩) (h ++ [B]) (w.alloc (.cells arr e fr)) := by
  have E := Ext.alloc (σ := σ) H B hk (.cells arr e fr)
  refine ⟨Nat.le_trans H.size E.size, fun j C hC => ?_, fun i j C D hC hD hkC hkD he => ?_⟩
  · rcases getElem?_snoc_lt hC with h1 | ⟨rfl, rfl⟩
    · have hj : j ≠ h.length := by have := lt_of_get h1; omega
      refine (H.blk j C h1).keep H E (fun hne => heap_alloc_old w _ _ ?_) (upd_other _ _ hj)
      by_cases hk : C.k = .ro
      · have hb := H.blk j C h1
        unfold BlkR at hb
        simp only [hk] at hb
        exact Nat.lt_of_lt_of_le (hb.1 (hne hk)) H.size
      · exact H.own_block h1 hk
    · unfold BlkR
      split
      · contradiction
      · refine ⟨w.heap.size, arr, e, fr, upd_same _ _ _, H.size, heap_alloc_new w _, hfr, hlen, hrow, fun i x hx => ?_⟩
        obtain ⟨v, hv, hr⟩ := hc i x hx
        exact ⟨v, hv, SVR.ext H E hr⟩
  · rcases getElem?_snoc_lt hC with h1 | ⟨rfl, rfl⟩ <;> rcases getElem?_snoc_lt hD with h2 | ⟨rfl, rfl⟩
    · rw [upd_other _ _ (by have := lt_of_get h1; omega), upd_other _ _ (by have := lt_of_get h2; omega)] at he
      exact H.inj i j C D h1 h2 hkC hkD he
    · rw [upd_other _ _ (by have := lt_of_get h1; omega), upd_same] at he
      have := H.own_block h1 hkC
      simp only at he
      omega
    · rw [upd_same, upd_other _ _ (by have := lt_of_get h2; omega)] at he
      have := H.own_block h2 hkD
      simp only at he
      omega
    · rfl

theorem set_get {α : Type} {l : List α} {b j : Nat} {x y : α} (h : (l.set b x)[j]? = some y) : (j = b ∧ y = x) ∨ (j ≠ b ∧ l[j]? = some y) := by
  rw [List.getElem?_set] at h
  by_cases hj : b = j
  · subst hj
    simp at h
    exact .inl ⟨rfl, h.2.symm⟩
  · rw [if_neg hj] at h
    exact .inr ⟨fun e => hj e.symm, h⟩
theorem get_set_same {α : Type} {l : List α} {b : Nat} {x y : α} (h : l[b]? = some y) : (l.set b x)[b]? = some x := by
  rw [List.getElem?_set_self (lt_of_get h)]
theorem get_set_other {α : Type} {l : List α} {b j : Nat} {x : α} (h : j ≠ b) : (l.set b x)[j]? = l[j]? := by
  rw [List.getElem?_set_ne (fun e => h e.symm)]

/-- an own block, taken apart -/
theorem HR.open_own (H : HR base σ h w) {b : Nat} {B : Blk} (hB : h[b]? = some B) (hk : B.k ≠ .ro) :
    ∃ c arr e fr, σ b = ⟨c, 0, none⟩ ∧ base ≤ c ∧ w.heap[c]? = some (.cells arr e fr) ∧ thawed fr arr.size ∧ B.c.length ≤ arr.size ∧
      (∀ e' sz, B.k = .row e' sz → e = e' ∧ fr = (0, 0) ∧ 0 < sz) ∧
      ∀ (i : Nat) (x : SV), B.c[i]? = some x → ∃ v, arr[i]? = some v ∧ SVR σ h w x v := by
  have hb := H.blk b B hB
  unfold BlkR at hb
  split at hb
  · contradiction
  · exact hb

/-- the world's block c holds other cells, as many -/
theorem Ext.rewrite (H : HR base σ h w) {b : Nat} {B : Blk} (hB : h[b]? = some B) (hk : B.k ≠ .ro) {c : Nat} {arr arr' : Array Value} {e : TypeId} {fr : Nat × Nat} (hs : σ b = ⟨c, 0, none⟩)
    (hw : w.heap[c]? = some (.cells arr e fr)) (hsz : arr'.size = arr.size) (cs : List SV) (hlen : B.c.length ≤ cs.length) (hw' : w'.heap[c]? = some (.cells arr' e fr)) (hfar : ∀ k, k ≠ c → w'.heap[k]? = w.heap[k]?)
    (hos : w'.os = w.os) (htape : w'.tape = w.tape) (hout : w'.output = w.output) (hsize : w'.heap.size = w.heap.size) :
    Ext σ h w σ (h.set b ⟨B.k, cs⟩) w' where
  os := hos
  tape := htape
  output := hout
  size := by omega
  far := fun k _ hn => hfar k fun e => hn ⟨b, B, hB, hk, by rw [hs, e]⟩
  rows := fun k _ => by
    by_cases hkc : k = c
    · subst hkc
      unfold rowSize
      rw [hw, hw']
      exact hsz
    · exact rowSize_of (hfar k hkc)
  grow := fun j C hC => by
    by_cases hj : j = b
    · subst hj
      rw [hB] at hC
      injection hC with hC
      subst hC
      exact ⟨⟨B.k, cs⟩, get_set_same hB, rfl, hlen, fun _ => rfl⟩
    · exact ⟨C, by rw [get_set_other hj]; exact hC, rfl, Nat.le_refl _, fun _ => rfl⟩
  own := fun k ⟨j, C, hC, hk', he⟩ => by
    rcases set_get hC with ⟨rfl, rfl⟩ | ⟨_, h1⟩
    · exact .inl ⟨j, B, hB, hk, he⟩
    · exact .inl ⟨j, C, h1, hk', he⟩

theorem HR.rewrite (H : HR base σ h w) {b : Nat} {B : Blk} (hB : h[b]? = some B) (hk : B.k ≠ .ro) {c : Nat} {arr arr' : Array Value} {e : TypeId} {fr : Nat × Nat} (hs : σ b = ⟨c, 0, none⟩)
    (hw : w.heap[c]? = some (.cells arr e fr)) (hsz : arr'.size = arr.size) (cs : List SV) (hlen : B.c.length ≤ cs.length) (hw' : w'.heap[c]? = some (.cells arr' e fr)) (hfar : ∀ k, k ≠ c → w'.heap[k]? = w.heap[k]?)
    (hos : w'.os = w.os) (htape : w'.tape = w.tape) (hout : w'.output = w.output) (hsize : w'.heap.size = w.heap.size) (hcs : cs.length ≤ arr.size)
    (hc : ∀ (i : Nat) (x : SV), cs[i]? = some x → ∃ v, arr'[i]? = some v ∧ SVR σ h w x v) : HR base σ (h.set b ⟨B.k, cs⟩) w' := by
  have E := Ext.rewrite (w' := w') H hB hk hs hw hsz cs hlen hw' hfar hos htape hout hsize
  obtain ⟨c', arr₀, e₀, fr₀, h1, h2, h3, h4, _, h6, _⟩ := H.open_own hB hk
  rw [hs] at h1
  injection h1 with h1
  subst h1
  rw [hw] at h3
  injection h3 with h3
  injection h3 with h31 h32 h33
  subst h31 h32 h33
  refine ⟨Nat.le_trans H.size E.size, fun j C hC => ?_, fun i j C D hC hD hkC hkD he => ?_⟩
  · rcases set_get hC with ⟨rfl, rfl⟩ | ⟨hj, h1⟩
    · unfold BlkR
      split
      · rename_i hk0; exact absurd hk0 hk
      · exact ⟨c, arr', e, fr, hs, h2, hw', by rw [hsz]; exact h4, by rw [hsz]; exact hcs, h6, fun i x hx => let ⟨v, hv, hr⟩ := hc i x hx; ⟨v, hv, SVR.ext H E hr⟩⟩
    · refine (H.blk j C h1).keep H E (fun hne => hfar _ ?_) rfl
      by_cases hkC : C.k = .ro
      · have hb := H.blk j C h1
        unfold BlkR at hb
        simp only [hkC] at hb
        have := hb.1 (hne hkC)
        omega
      · intro e
        exact hj (H.inj j b C B h1 hB hkC hk (by rw [hs, e]))
  · have get : ∀ {i : Nat} {C : Blk}, (h.set b ⟨B.k, cs⟩)[i]? = some C → C.k ≠ .ro → ∃ C', h[i]? = some C' ∧ C'.k ≠ .ro := by
      intro i C hC hk0
      rcases set_get hC with ⟨rfl, rfl⟩ | ⟨_, h1⟩
      · exact ⟨B, hB, hk⟩
      · exact ⟨C, h1, hk0⟩
    obtain ⟨C', hC', hk1⟩ := get hC hkC
    obtain ⟨D', hD', hk2⟩ := get hD hkD
    exact H.inj i j C' D' hC' hD' hk1 hk2 he

/-- an own block's frozen places are others, none of them a cell -/
theorem HR.refreeze (H : HR base σ h w) {b : Nat} {B : Blk} (hB : h[b]? = some B) (hk : B.k = .var) {c : Nat} {arr : Array Value} {e : TypeId} {fr fr' : Nat × Nat} (hs : σ b = ⟨c, 0, none⟩)
    (hw : w.heap[c]? = some (.cells arr e fr)) (hfr : thawed fr' arr.size) (hw' : w'.heap[c]? = some (.cells arr e fr')) (hfar : ∀ k, k ≠ c → w'.heap[k]? = w.heap[k]?)
    (hos : w'.os = w.os) (htape : w'.tape = w.tape) (hout : w'.output = w.output) (hsize : w'.heap.size = w.heap.size) : HR base σ h w' ∧ Ext σ h w σ h w' := by
  have hkr : B.k ≠ .ro := by rw [hk]; simp
  have E : Ext σ h w σ h w' := ⟨hos, htape, hout, by omega, fun k _ hn => hfar k fun e => hn ⟨b, B, hB, hkr, by rw [hs, e]⟩, fun k _ => by
      by_cases hkc : k = c
      · subst hkc
        unfold rowSize
        rw [hw, hw']
      · exact rowSize_of (hfar k hkc), fun j C hC => ⟨C, hC, rfl, Nat.le_refl _, fun _ => rfl⟩, fun k hk' => .inl hk'⟩
  obtain ⟨c', arr₀, e₀, fr₀, h1, h2, h3, h4, h5, h6, h7⟩ := H.open_own hB hkr
  rw [hs] at h1
  injection h1 with h1
  subst h1
  rw [hw] at h3
  injection h3 with h3
  injection h3 with h31 h32 h33
  subst h31 h32 h33
  refine ⟨⟨Nat.le_trans H.size E.size, fun j C hC => ?_, H.inj⟩, E⟩
  by_cases hj : j = b
  · subst hj
    rw [hB] at hC
    injection hC with hC
    subst hC
    unfold BlkR
    split
    · rename_i hk0; exact absurd hk0 hkr
    · exact ⟨c, arr, e, fr', hs, h2, hw', hfr, h5, (fun e' sz he => by rw [hk] at he; cases he), fun i x hx => let ⟨v, hv, hr⟩ := h7 i x hx; ⟨v, hv, SVR.ext H E hr⟩⟩
  · refine (H.blk j C hC).keep H E (fun hne => hfar _ ?_) rfl
    by_cases hkC : C.k = .ro
    · have hb := H.blk j C hC
      unfold BlkR at hb
      simp only [hkC] at hb
      have := hb.1 (hne hkC)
      omega
    · intro e
      exact hj (H.inj j b C B hC hB hkC hkr (by rw [hs, e]))

/-- the block's cells move into a new row -/
theorem Ext.move (H : HR base σ h w) {b : Nat} {B : Blk} (hB : h[b]? = some B) (hk : B.k ≠ .ro) (cs : List SV) (hlen : B.c.length < cs.length) (hsz : w.heap.size < w'.heap.size) (hfar : ∀ k, k < w.heap.size → w'.heap[k]? = w.heap[k]?)
    (hos : w'.os = w.os) (htape : w'.tape = w.tape) (hout : w'.output = w.output) :
    Ext σ h w (upd σ b ⟨w.heap.size, 0, none⟩) (h.set b ⟨B.k, cs⟩) w' where
  os := hos
  tape := htape
  output := hout
  size := by omega
  far := fun k hk' _ => hfar k hk'
  rows := fun k hk' => rowSize_of (hfar k hk')
  grow := fun j C hC => by
    by_cases hj : j = b
    · subst hj
      rw [hB] at hC
      injection hC with hC
      subst hC
      exact ⟨⟨B.k, cs⟩, get_set_same hB, rfl, by simp only; omega, fun e => by simp only at e; omega⟩
    · exact ⟨C, by rw [get_set_other hj]; exact hC, rfl, Nat.le_refl _, fun _ => upd_other _ _ hj⟩
  own := fun k ⟨j, C, hC, hk', he⟩ => by
    rcases set_get hC with ⟨rfl, rfl⟩ | ⟨hj, h1⟩
    · rw [upd_same] at he
      exact .inr (by simp only at he; omega)
    · rw [upd_other _ _ hj] at he
      exact .inl ⟨j, C, h1, hk', he⟩

theorem HR.move (H : HR base σ h w) {b : Nat} {B : Blk} (hB : h[b]? = some B) (hk : B.k ≠ .ro) (cs : List SV) (hlen : B.c.length < cs.length) (hsz : w.heap.size < w'.heap.size) (hfar : ∀ k, k < w.heap.size → w'.heap[k]? = w.heap[k]?)
    (hos : w'.os = w.os) (htape : w'.tape = w.tape) (hout : w'.output = w.output) {arr : Array Value} {e : TypeId} (hw : w'.heap[w.heap.size]? = some (.cells arr e (0, 0))) (hcs : cs.length ≤ arr.size)
    (hrow : ∀ e' sz, B.k = .row e' sz → e = e' ∧ 0 < sz) (hc : ∀ (i : Nat) (x : SV), cs[i]? = some x → ∃ v, arr[i]? = some v ∧ SVR σ h w x v) :
    HR base (upd σ b ⟨w.heap.size, 0, none⟩) (h.set b ⟨B.k, cs⟩) w' := by
  have E := Ext.move (w' := w') H hB hk cs hlen hsz hfar hos htape hout
  refine ⟨Nat.le_trans H.size E.size, fun j C hC => ?_, fun i j C D hC hD hkC hkD he => ?_⟩
  · rcases set_get hC with ⟨rfl, rfl⟩ | ⟨hj, h1⟩
    · unfold BlkR
      split
      · rename_i hk0; exact absurd hk0 hk
      · exact ⟨w.heap.size, arr, e, (0, 0), upd_same _ _ _, H.size, hw, ⟨Nat.le_refl _, fun i _ => by simp⟩, hcs, fun e' sz he => ⟨(hrow e' sz he).1, rfl, (hrow e' sz he).2⟩, fun i x hx => let ⟨v, hv, hr⟩ := hc i x hx; ⟨v, hv, SVR.ext H E hr⟩⟩
    · refine (H.blk j C h1).keep H E (fun hne => hfar _ ?_) (upd_other _ _ hj)
      by_cases hkC : C.k = .ro
      · have hb := H.blk j C h1
        unfold BlkR at hb
        simp only [hkC] at hb
        have := hb.1 (hne hkC)
        have := H.size
        omega
      · exact H.own_block h1 hkC
  · rcases set_get hC with ⟨rfl, rfl⟩ | ⟨hi, h1⟩ <;> rcases set_get hD with ⟨rfl, rfl⟩ | ⟨hj, h2⟩
    · rfl
    · rw [upd_same, upd_other _ _ hj] at he
      have := H.own_block h2 hkD
      simp only at he
      omega
    · rw [upd_same, upd_other _ _ hi] at he
      have := H.own_block h1 hkC
      simp only at he
      omega
    · rw [upd_other _ _ hi, upd_other _ _ hj] at he
      exact H.inj i j C D h1 h2 hkC hkD he

/-- what is read is there -/
theorem HR.read (H : HR base σ h w) {b : Nat} {B : Blk} (hB : h[b]? = some B) {i : Nat} {x : SV} (hx : B.c[i]? = some x) : ∃ v, w.cell? ((σ b).add i) = some v ∧ SVR σ h w x v := by
  by_cases hk : B.k = .ro
  · have hb := H.blk b B hB
    unfold BlkR at hb
    simp only [hk] at hb
    exact hb.2 i x hx
  · obtain ⟨c, arr, e, fr, h1, h2, h3, h4, h5, h6, h7⟩ := H.open_own hB hk
    obtain ⟨v, hv, hr⟩ := h7 i x hx
    refine ⟨v, ?_, hr⟩
    rw [h1, cell_add0, cell_of_row w c i arr e fr h3]
    exact hv
end
end Go.Abs
