/- The abstract machine, part 1: abstract values, abstract heaps, and what it means that a world bears them. Proved once, for any program. -/
import Derived.Calls
import Derived.Orders
import Derived.LoopN
import Derived.Below
import Derived.Laws.Rows
import Derived.Laws.AppendOwn
import Derived.Laws.Cells
set_option linter.unusedVariables false
set_option linter.unusedSimpArgs false
namespace Go.Abs

/-- one cell's value; 'ptr b o e': abstract block b, place o, made when the block had e cells; 'sl b o n c': a slice of n elements from place o on, c cells from there to the block's end when it was made -/
inductive SV where
  | bool (b : Bool)
  | int (k : IntKind) (n : Int)
  | str (l : List UInt8)
  | ptr (b o e : Nat)
  | nilp
  | sl (b o n c : Nat)
  | nils
  | fn (f : Nat) (caps : List (Nat × Nat × Nat))
  deriving Inhabited

inductive AV where
  | sc (x : SV)
  | agg (l : List SV)
  | imm (n : Nat) (l : List SV)
  | undef
  deriving Inhabited

/-- what a temporary holds: nothing known, one value, or a tuple -/
abbrev TV := List AV

inductive BK where
  | ro
  | var
  | row (e sz : Nat)
  deriving Inhabited, DecidableEq

structure Blk where
  k : BK
  c : List SV
  deriving Inhabited

abbrev Heap := List Blk
abbrev Env := List (Nat × TV)

def Env.get : Env → Nat → TV
  | [], _ => []
  | (k, v) :: r, s => bif Nat.beq k s then v else Env.get r s

def rowSize (w : World) (c : Nat) : Nat := match w.heap[c]? with | some (.cells cs _ _) => cs.size | _ => 0

/-- is a slice's capacity, its place and its row of one make? -/
def rowFit (w : World) (c : Nat) (k : BK) (o cap : Nat) : Prop :=
  match k with
  | .row _ sz => cap ≤ maxLen ∧ o + cap * sz ≤ rowSize w c ∧ (o = 0 → cap * sz = rowSize w c)
  | _ => True

/-- place for place -/
def All2 {α β : Type} (R : α → β → Prop) : List α → List β → Prop
  | [], [] => True
  | a :: l, b :: m => R a b ∧ All2 R l m
  | _, _ => False

/-- the concrete value v is what the abstract x says -/
def SVR (σ : Nat → Addr) (h : Heap) (w : World) : SV → Value → Prop
  | .bool b, v => v = .bool b
  | .int k n, v => v = .int k n
  | .str l, v => v = .string ⟨l.toArray⟩
  | .ptr b o e, v => ∃ B, h[b]? = some B ∧ e ≤ B.c.length ∧ v.oneCell' = true ∧ (e = B.c.length → v = .pointer (some ((σ b).add o)))
  | .nilp, v => v = .pointer none
  | .sl b o n c, v => ∃ B, h[b]? = some B ∧ o + c ≤ B.c.length ∧ v.oneCell' = true ∧
      (o + c = B.c.length → ∃ ad cap, v = .slice (some ad) n cap ∧ n ≤ cap ∧ (ad = (σ b).add o ∨ cap = 0 ∧ 0 < o) ∧ rowFit w (σ b).block B.k o cap)
  | .nils, v => v = .slice none 0 0
  | .fn f caps, v => ∃ vs : List Value, v = .func (.func f) #[] vs.toArray ∧ vs.length = caps.length ∧
      ∀ (i : Nat) (p : Nat × Nat × Nat) (u : Value), caps[i]? = some p → vs[i]? = some u →
        ∃ B, h[p.1]? = some B ∧ p.2.2 ≤ B.c.length ∧ (p.2.2 = B.c.length → u = .pointer (some ((σ p.1).add p.2.1)))

def AVR (σ : Nat → Addr) (h : Heap) (w : World) : AV → Value → Prop
  | .sc x, v => SVR σ h w x v
  | .agg l, v => ∃ cs : List Value, v = .agg cs.toArray ∧ All2 (SVR σ h w) l cs
  | .imm n l, v => ∃ c arr e, v = .slice (some ⟨c, 0, none⟩) n n ∧ w.heap[c]? = some (.cells arr e (0, 0)) ∧ All2 (SVR σ h w) l arr.toList ∧
      ∀ j B, h[j]? = some B → B.k ≠ .ro → (σ j).block ≠ c
  | .undef, v => v = Go.undef

def TVR (σ : Nat → Addr) (h : Heap) (w : World) : TV → Value → Prop
  | [], _ => True
  | [x], v => AVR σ h w x v
  | x :: y :: l, v => ∃ vs : List Value, v = .tuple vs.toArray ∧ All2 (AVR σ h w) (x :: y :: l) vs

/-- no cell of a row of n cells is frozen -/
def thawed (fr : Nat × Nat) (n : Nat) : Prop := fr.1 ≤ fr.2 ∧ ∀ i, i < n → ¬ (fr.1 ≤ i ∧ i < fr.2)

def BlkR (base : Nat) (σ : Nat → Addr) (h : Heap) (w : World) (j : Nat) (B : Blk) : Prop :=
  match B.k with
  | .ro => (0 < B.c.length → (σ j).block < base) ∧ ∀ (i : Nat) (x : SV), B.c[i]? = some x → ∃ v, w.cell? ((σ j).add i) = some v ∧ SVR σ h w x v
  | k => ∃ c arr e fr, σ j = ⟨c, 0, none⟩ ∧ base ≤ c ∧ w.heap[c]? = some (.cells arr e fr) ∧ thawed fr arr.size ∧ B.c.length ≤ arr.size ∧
      (∀ e' sz, k = .row e' sz → e = e' ∧ fr = (0, 0) ∧ 0 < sz) ∧
      ∀ (i : Nat) (x : SV), B.c[i]? = some x → ∃ v, arr[i]? = some v ∧ SVR σ h w x v

structure HR (base : Nat) (σ : Nat → Addr) (h : Heap) (w : World) : Prop where
  size : base ≤ w.heap.size
  blk : ∀ j B, h[j]? = some B → BlkR base σ h w j B
  inj : ∀ i j B C, h[i]? = some B → h[j]? = some C → B.k ≠ .ro → C.k ≠ .ro → (σ i).block = (σ j).block → i = j

/-- block c is one of those that the abstract heap writes -/
def Owned (σ : Nat → Addr) (h : Heap) (c : Nat) : Prop := ∃ j B, h[j]? = some B ∧ B.k ≠ .ro ∧ (σ j).block = c

/-- from one state to a later one -/
structure Ext (σ : Nat → Addr) (h : Heap) (w : World) (σ' : Nat → Addr) (h' : Heap) (w' : World) : Prop where
  os : w'.os = w.os
  tape : w'.tape = w.tape
  output : w'.output = w.output
  size : w.heap.size ≤ w'.heap.size
  far : ∀ c, c < w.heap.size → ¬ Owned σ h c → w'.heap[c]? = w.heap[c]?
  rows : ∀ c, c < w.heap.size → rowSize w' c = rowSize w c
  grow : ∀ (j : Nat) (B : Blk), h[j]? = some B → ∃ B' : Blk, h'[j]? = some B' ∧ B'.k = B.k ∧ B.c.length ≤ B'.c.length ∧ (B'.c.length = B.c.length → σ' j = σ j)
  own : ∀ c, Owned σ' h' c → Owned σ h c ∨ w.heap.size ≤ c

theorem Ext.refl (σ : Nat → Addr) (h : Heap) (w : World) : Ext σ h w σ h w :=
  ⟨rfl, rfl, rfl, Nat.le_refl _, fun _ _ _ => rfl, fun _ _ => rfl, fun _ B hB => ⟨B, hB, rfl, Nat.le_refl _, fun _ => rfl⟩, fun _ hc => .inl hc⟩

theorem Ext.trans {σ σ' σ'' : Nat → Addr} {h h' h'' : Heap} {w w' w'' : World} (a : Ext σ h w σ' h' w') (b : Ext σ' h' w' σ'' h'' w'') : Ext σ h w σ'' h'' w'' where
  os := b.os.trans a.os
  tape := b.tape.trans a.tape
  output := b.output.trans a.output
  size := Nat.le_trans a.size b.size
  far := fun c hc hn => by
    refine (b.far c (Nat.lt_of_lt_of_le hc a.size) fun ho => ?_).trans (a.far c hc hn)
    rcases a.own c ho with h1 | h1
    · exact hn h1
    · omega
  rows := fun c hc => (b.rows c (Nat.lt_of_lt_of_le hc a.size)).trans (a.rows c hc)
  grow := fun j B hB => by
    obtain ⟨B', hB', hk, hl, hs⟩ := a.grow j B hB
    obtain ⟨B'', hB'', hk', hl', hs'⟩ := b.grow j B' hB'
    exact ⟨B'', hB'', hk'.trans hk, Nat.le_trans hl hl', fun e => (hs' (by omega)).trans (hs (by omega))⟩
  own := fun c hc => by
    rcases b.own c hc with h1 | h1
    · rcases a.own c h1 with h2 | h2
      · exact .inl h2
      · exact .inr h2
    · exact .inr (Nat.le_trans a.size h1)

theorem block_add (a : Addr) (n : Nat) : (a.add n).block = a.block := by unfold Addr.add; split <;> rfl

section
variable {base : Nat} {σ σ' : Nat → Addr} {h h' : Heap} {w w' : World}

/-- the concrete block of an own abstract block exists -/
theorem HR.own_lt (H : HR base σ h w) {c : Nat} (ho : Owned σ h c) : base ≤ c ∧ c < w.heap.size := by
  obtain ⟨j, B, hB, hk, rfl⟩ := ho
  have hb := H.blk j B hB
  unfold BlkR at hb
  split at hb
  · contradiction
  · obtain ⟨c, arr, e, fr, hs, hc, hh, _⟩ := hb
    rw [hs]
    exact ⟨hc, (Array.getElem?_eq_some_iff.1 hh).1⟩

theorem HR.own_block (H : HR base σ h w) {j : Nat} {B : Blk} (hB : h[j]? = some B) (hk : B.k ≠ .ro) : (σ j).block < w.heap.size :=
  (H.own_lt ⟨j, B, hB, hk, rfl⟩).2

theorem rowFit.keep {c o cap : Nat} {k : BK} (h : rowFit w c k o cap) (hr : rowSize w' c = rowSize w c) : rowFit w' c k o cap := by
  unfold rowFit at h ⊢
  split
  · rw [hr]; exact h
  · trivial

theorem SVR.ext (H : HR base σ h w) (E : Ext σ h w σ' h' w') {x : SV} {v : Value} (hv : SVR σ h w x v) : SVR σ' h' w' x v := by
  cases x with
  | bool b => exact hv
  | int k n => exact hv
  | str l => exact hv
  | nilp => exact hv
  | nils => exact hv
  | ptr b o e =>
    obtain ⟨B, hB, he, h1, hf⟩ := hv
    obtain ⟨B', hB', hk, hl, hs⟩ := E.grow b B hB
    exact ⟨B', hB', Nat.le_trans he hl, h1, fun e' => by rw [hs (by omega)]; exact hf (by omega)⟩
  | sl b o n c =>
    obtain ⟨B, hB, he, h1, hf⟩ := hv
    obtain ⟨B', hB', hk, hl, hs⟩ := E.grow b B hB
    refine ⟨B', hB', Nat.le_trans he hl, h1, fun e' => ?_⟩
    obtain ⟨ad, cap, h1, h2, h3, h4⟩ := hf (by omega)
    have e2 := hs (by omega)
    refine ⟨ad, cap, h1, h2, by rw [e2]; exact h3, ?_⟩
    rw [e2, hk]
    cases hkk : B.k with
    | ro => exact trivial
    | var => exact trivial
    | row e sz =>
      have hlt := H.own_block hB (by rw [hkk]; simp)
      exact (hkk ▸ h4).keep (E.rows _ hlt)
  | fn f caps =>
    obtain ⟨vs, h1, h2, h3⟩ := hv
    refine ⟨vs, h1, h2, fun i p u hp hu => ?_⟩
    obtain ⟨B, hB, he, hf⟩ := h3 i p u hp hu
    obtain ⟨B', hB', hk, hl, hs⟩ := E.grow p.1 B hB
    exact ⟨B', hB', Nat.le_trans he hl, fun e' => by rw [hs (by omega)]; exact hf (by omega)⟩

theorem forall2_imp {α β : Type} {R S : α → β → Prop} (hi : ∀ a b, R a b → S a b) : ∀ {l : List α} {m : List β}, All2 R l m → All2 S l m
  | [], [], _ => trivial
  | _ :: _, _ :: _, hf => ⟨hi _ _ hf.1, forall2_imp hi hf.2⟩
  | [], _ :: _, hf => hf.elim
  | _ :: _, [], hf => hf.elim

theorem All2.length {α β : Type} {R : α → β → Prop} : ∀ {l : List α} {m : List β}, All2 R l m → l.length = m.length
  | [], [], _ => rfl
  | _ :: _, _ :: _, h => by simp [All2.length h.2]
  | [], _ :: _, h => h.elim
  | _ :: _, [], h => h.elim

theorem All2.get {α β : Type} {R : α → β → Prop} : ∀ {l : List α} {m : List β}, All2 R l m → ∀ (i : Nat) (a : α), l[i]? = some a → ∃ b, m[i]? = some b ∧ R a b
  | [], [], _, i, a, ha => by simp at ha
  | _ :: _, b :: _, h, 0, a, ha => by simp at ha; exact ⟨b, by simp, ha ▸ h.1⟩
  | _ :: _, _ :: _, h, i + 1, a, ha => by simp at ha; obtain ⟨b, hb, hr⟩ := All2.get h.2 i a ha; exact ⟨b, by simpa using hb, hr⟩
  | [], _ :: _, h, _, _, _ => h.elim
  | _ :: _, [], h, _, _, _ => h.elim

theorem All2.of_get {α β : Type} {R : α → β → Prop} : ∀ {l : List α} {m : List β}, l.length = m.length → (∀ (i : Nat) (a : α) (b : β), l[i]? = some a → m[i]? = some b → R a b) → All2 R l m
  | [], [], _, _ => trivial
  | a :: l, b :: m, hl, h => ⟨h 0 a b (by simp) (by simp), All2.of_get (by simpa using hl) fun i x y hx hy => h (i + 1) x y (by simpa using hx) (by simpa using hy)⟩
  | [], _ :: _, hl, _ => by simp at hl
  | _ :: _, [], hl, _ => by simp at hl

theorem All2.append {α β : Type} {R : α → β → Prop} : ∀ {l : List α} {m : List β} {l' : List α} {m' : List β}, All2 R l m → All2 R l' m' → All2 R (l ++ l') (m ++ m')
  | [], [], _, _, _, h' => h'
  | _ :: _, _ :: _, _, _, h, h' => ⟨h.1, All2.append h.2 h'⟩
  | [], _ :: _, _, _, h, _ => h.elim
  | _ :: _, [], _, _, h, _ => h.elim

theorem All2.take {α β : Type} {R : α → β → Prop} : ∀ {l : List α} {m : List β} (n : Nat), All2 R l m → All2 R (l.take n) (m.take n)
  | [], [], n, _ => by simp [All2]
  | _ :: _, _ :: _, 0, _ => by simp [All2]
  | _ :: _, _ :: _, n + 1, h => ⟨h.1, All2.take n h.2⟩
  | [], _ :: _, _, h => h.elim
  | _ :: _, [], _, h => h.elim

theorem All2.drop {α β : Type} {R : α → β → Prop} : ∀ {l : List α} {m : List β} (n : Nat), All2 R l m → All2 R (l.drop n) (m.drop n)
  | [], [], n, _ => by simp [All2]
  | _ :: _, _ :: _, 0, h => h
  | _ :: _, _ :: _, n + 1, h => All2.drop n h.2
  | [], _ :: _, _, h => h.elim
  | _ :: _, [], _, h => h.elim

theorem All2.mem_right {α β : Type} {R : α → β → Prop} : ∀ {l : List α} {m : List β}, All2 R l m → ∀ b ∈ m, ∃ a ∈ l, R a b
  | [], [], _, b, hb => by simp at hb
  | a :: _, _ :: _, h, b, hb => by
    rcases List.mem_cons.1 hb with rfl | hb
    · exact ⟨a, by simp, h.1⟩
    · obtain ⟨x, hx, hr⟩ := All2.mem_right h.2 b hb; exact ⟨x, List.mem_cons_of_mem _ hx, hr⟩
  | [], _ :: _, h, _, _ => h.elim
  | _ :: _, [], h, _, _ => h.elim

theorem AVR.ext (H : HR base σ h w) (E : Ext σ h w σ' h' w') {x : AV} {v : Value} (hv : AVR σ h w x v) : AVR σ' h' w' x v := by
  cases x with
  | sc x => exact SVR.ext H E hv
  | agg l =>
    obtain ⟨cs, h1, h2⟩ := hv
    exact ⟨cs, h1, forall2_imp (fun _ _ => SVR.ext H E) h2⟩
  | imm n l =>
    obtain ⟨c, arr, e, h1, h2, h3, h4⟩ := hv
    have hlt : c < w.heap.size := (Array.getElem?_eq_some_iff.1 h2).1
    refine ⟨c, arr, e, h1, (E.far c hlt fun ⟨j, B, hB, hk, he⟩ => h4 j B hB hk he).trans h2, forall2_imp (fun _ _ => SVR.ext H E) h3, fun j B hB hk he => ?_⟩
    rcases E.own c ⟨j, B, hB, hk, he⟩ with ⟨i, C, hC, hk', he'⟩ | hge
    · exact h4 i C hC hk' he'
    · omega
  | undef => exact hv

theorem TVR.ext (H : HR base σ h w) (E : Ext σ h w σ' h' w') {x : TV} {v : Value} (hv : TVR σ h w x v) : TVR σ' h' w' x v := by
  match x, hv with
  | [], _ => trivial
  | [x], hv => exact AVR.ext H E (x := x) hv
  | x :: y :: l, hv =>
    obtain ⟨vs, h1, h2⟩ := hv
    exact ⟨vs, h1, forall2_imp (fun _ _ => AVR.ext H E) h2⟩

/-- nothing below the base is written -/
theorem Ext.below (H : HR base σ h w) (E : Ext σ h w σ' h' w') : RowKit.Below base w w' :=
  ⟨E.os, E.tape, E.output, E.size, fun k hk => E.far k (Nat.lt_of_lt_of_le hk H.size) fun ho => by have := (H.own_lt ho).1; omega⟩
end
end Go.Abs
