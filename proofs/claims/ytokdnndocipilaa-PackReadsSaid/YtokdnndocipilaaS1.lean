/- Chapter 1: writers: what Byte, Num, Int, Text and Bytes do to one. -/
import Derived.Test.YtokdnndocipilaaFK
import Derived.Test.YtokdnndocipilaaXH
set_option linter.unusedVariables false
set_option linter.unusedSimpArgs false
set_option maxRecDepth 100000
namespace Go.Proofs.Ytokdnndocipilaa
open Go.Abs

theorem known13 : saysTrue (callA F noOrc 60 13 [] []) = true := by kernel_rfl
def O : Orc := orcTab [(13, [.sc (.bool true)])]
theorem orcOk : OrcOk Try.prog O := orcOk_of funsOk mixed fun p hp => by
  have : p = (13, [.sc (.bool true)]) := by simpa using hp
  subst this
  obtain ⟨h', hh⟩ := saysTrue_spec known13
  exact ⟨rfl, 60, h', hh⟩
noncomputable abbrev call : CallA := callE F O

theorem trim_get {h h' : Heap} (hl : h.length ≤ h'.length) (r : TV) {j : Nat} (hj : j < h.length) : (trim h h' r)[j]? = h'[j]? := by
  unfold trim
  split
  · exact take_get hj
  · rfl

/-- a writer at block i that holds l -/
def Wr (h : Heap) (i : Nat) (l : List UInt8) : Prop := ∃ x, h[i]? = some ⟨.var, [x]⟩ ∧ Own h x 5 1 l.length (Go.Abs.bytes l) ∧ ¬ blk x i
/-- what it touches -/
def wset (h : Heap) (i j : Nat) : Prop := j = i ∨ ∃ x, h[i]? = some ⟨.var, [x]⟩ ∧ blk x j

/-- from one state of a writer to a later one: m was laid behind -/
structure WStep (h : Heap) (i : Nat) (l : List UInt8) (h' : Heap) (m : List UInt8) : Prop where
  wr : Wr h' i (l ++ m)
  mod : Mod (wset h i) h h'
  new : ∀ j, wset h' i j → wset h i j ∨ h.length ≤ j

theorem Wr.lt {h : Heap} {i : Nat} {l : List UInt8} (w : Wr h i l) : i < h.length := by
  obtain ⟨x, hx, _⟩ := w
  exact lt_of_get hx
theorem Wr.wset_lt {h : Heap} {i : Nat} {l : List UInt8} (w : Wr h i l) : ∀ j, wset h i j → j < h.length := fun j hj => by
  obtain ⟨x, hx, ho, _⟩ := w
  rcases hj with rfl | ⟨y, hy, hb⟩
  · exact lt_of_get hx
  · rw [hx] at hy
    injection hy with hy
    injection hy with _ hy
    injection hy with hy
    subst hy
    exact ho.lt j hb

theorem WStep.refl {h : Heap} {i : Nat} {l : List UInt8} (w : Wr h i l) : WStep h i l h [] := ⟨by simpa using w, Mod.refl _ _, fun j hj => .inl hj⟩
theorem WStep.trans {h h' h'' : Heap} {i : Nat} {l m m' : List UInt8} (a : WStep h i l h' m) (b : WStep h' i (l ++ m) h'' m') : WStep h i l h'' (m ++ m') :=
  ⟨by rw [← List.append_assoc]; exact b.wr, a.mod.trans b.mod fun j hj hs => (a.new j hs).resolve_right (by omega), fun j hj => by
    rcases b.new j hj with h1 | h1
    · exact a.new j h1
    · exact .inr (Nat.le_trans a.mod.1 h1)⟩

theorem Wr.trim {h h' : Heap} {i : Nat} {l m : List UInt8} (w : Wr h i l) (w' : Wr h' i m) (hl : h.length ≤ h'.length) (r : TV) : Wr (Go.Abs.trim h h' r) i m := by
  unfold Go.Abs.trim
  split
  · rename_i hc
    simp only [Bool.and_eq_true] at hc
    obtain ⟨_, ho⟩ := hc
    obtain ⟨x, hx, hxo, hxi⟩ := w
    obtain ⟨y, hy, hyo, hyi⟩ := w'
    have hi := lt_of_get hx
    refine ⟨y, by rw [take_get hi]; exact hy, ?_, hyi⟩
    have hb : ∀ j, blk y j → j < h.length := fun j hj => by
      rcases (okOld_get ho).2 i _ _ hx hy with h1 | h1
      · have := h1 y (by simp)
        cases y <;> simp only [blk] at hj
        subst hj
        exact blt_iff.1 this
      · simp only [List.cons.injEq, and_true] at h1
        subst h1
        exact hxo.lt j hj
    rcases hyo with h1 | ⟨b, rfl, hB, hc⟩
    · exact .inl h1
    · exact .inr ⟨b, rfl, by rw [take_get (hb b rfl)]; exact hB, hc⟩
  · exact w'

theorem WStep.trim {h h' : Heap} {i : Nat} {l m : List UInt8} (w : Wr h i l) (a : WStep h i l h' m) (r : TV) : WStep h i l (Go.Abs.trim h h' r) m :=
  ⟨w.trim a.wr a.mod.1 r, trim_mod' a.mod, fun j hj => by
    refine a.new j (hj.imp id fun ⟨x, hx, hb⟩ => ⟨x, ?_, hb⟩)
    rw [trim_get a.mod.1 r w.lt] at hx
    exact hx⟩

/-- one append through the writer's place -/
theorem wr_app {h : Heap} {i : Nat} {l : List UInt8} {x : SV} (hi : h[i]? = some ⟨.var, [x]⟩) (hx : Own h x 5 1 l.length (Go.Abs.bytes l)) (hd : ¬ blk x i) {y : AV} {m : List UInt8} (hy : srcOf h 1 y = some (m.length, Go.Abs.bytes m)) (hl : l.length + m.length ≤ lim) :
    appA h 5 1 1 (.sc x) y = some ([.sc (appV h x 1 m.length)], appH h x 5 1 m.length (Go.Abs.bytes m)) ∧
    (appH h x 5 1 m.length (Go.Abs.bytes m))[i]? = some ⟨.var, [x]⟩ ∧
    WStep h i l ((appH h x 5 1 m.length (Go.Abs.bytes m)).set i ⟨.var, [appV h x 1 m.length]⟩) m := by
  have h1 := app_mod (h := h) (x := x) (sz := 1) (e := 5) (m := m.length) (ys := Go.Abs.bytes m)
  have hi1 := h1.get hi hd
  have hlt := lt_of_get hi
  have hmod : Mod (wset h i) h ((appH h x 5 1 m.length (Go.Abs.bytes m)).set i ⟨.var, [appV h x 1 m.length]⟩) :=
    (h1.mono fun j _ hj => .inr ⟨x, hi, hj⟩).trans (S' := fun j => j = i) (Mod.set _ _ rfl) fun j _ hj => .inl hj
  have hnb : ¬ blk (appV h x 1 m.length) i := fun hb => by
    rcases blk_app i hb with h2 | h2
    · exact hd h2
    · omega
  refine ⟨appA_own hx hy (by simpa using hl), hi1, ⟨⟨_, get_set_same hi1, ?_, hnb⟩, hmod, fun j hj => ?_⟩⟩
  · have := app_own (e := 5) hx (m := m.length) (ys := Go.Abs.bytes m) (by simp [bytes_length])
    rw [← bytes_append, ← List.length_append] at this
    exact this.mod (S := fun j => j = i) (Mod.set _ _ rfl) fun j hj e => hnb (e ▸ hj)
  · rcases hj with rfl | ⟨y', hy', hb⟩
    · exact .inl (.inl rfl)
    · rw [get_set_same hi1] at hy'
      injection hy' with hy'
      injection hy' with _ hy'
      injection hy' with hy'
      subst hy'
      rcases blk_app j hb with h2 | h2
      · exact .inl (.inr ⟨x, hi, h2⟩)
      · exact .inr (by omega)

theorem wr_app1 {h : Heap} {i : Nat} {l : List UInt8} {x : SV} (hi : h[i]? = some ⟨.var, [x]⟩) (hx : Own h x 5 1 l.length (Go.Abs.bytes l)) (hd : ¬ blk x i) (b : UInt8) (hl : l.length < lim) :
    appA h 5 1 1 (.sc x) (.imm 1 [.int .u8 b.toNat]) = some ([.sc (appV h x 1 1)], appH h x 5 1 1 [.int .u8 b.toNat]) ∧
    (appH h x 5 1 1 [.int .u8 b.toNat])[i]? = some ⟨.var, [x]⟩ ∧ freshB h i 1 = true ∧ freshB (appH h x 5 1 1 [.int .u8 b.toNat]) i 1 = true ∧
    WStep h i l ((appH h x 5 1 1 [.int .u8 b.toNat]).set i ⟨.var, [appV h x 1 1]⟩) [b] := by
  obtain ⟨a1, i1, st⟩ := wr_app hi hx hd (y := .imm 1 [.int .u8 b.toNat]) (m := [b]) rfl (by simp; omega)
  exact ⟨a1, i1, freshB_of hi rfl, freshB_of i1 rfl, st⟩

theorem spec15 {h : Heap} {i : Nat} {l : List UInt8} (b : UInt8) (w : Wr h i l) (hl : l.length ≤ 140737488353280) : ∃ h', call 15 [[.sc (.ptr i 0 1)], [.sc (.int .u8 b.toNat)]] h = some ([], h') ∧ WStep h i l h' [b] := by
  have w0 := w
  obtain ⟨x, hi, hx, hd⟩ := w
  obtain ⟨a1, i1, f0, f1, st⟩ := wr_app1 hi hx hd b (by simp [lim]; omega)
  refine ⟨_, callE_of (x := .normal) (e := []) (h' := (appH h x 5 1 1 [.int .u8 b.toNat]).set i ⟨.var, [appV h x 1 1]⟩) rfl (by rfl : F 15 = some M.a15) (by
    simp [M.a15, nilckA, fldA, loadA, storeA, f0, f1, hi, i1, a1]) (.inl rfl) rfl, st.trim w0 []⟩

/-- a number's bytes -/
def numB (n : Nat) : List UInt8 := if n < 128 then [UInt8.ofNat n] else UInt8.ofNat (n % 128 + 128) :: numB (n / 128)
termination_by n
decreasing_by omega

theorem numB_small {n : Nat} (h : n < 128) : numB n = [UInt8.ofNat n] := by rw [numB, if_pos h]
theorem numB_big {n : Nat} (h : 128 ≤ n) : numB n = UInt8.ofNat (n % 128 + 128) :: numB (n / 128) := by rw [numB, if_neg (by omega)]
theorem numB_length : ∀ (k n : Nat), n < 128 ^ k → 0 < k → (numB n).length ≤ k
  | 0, _, _, h => by omega
  | k + 1, n, hn, _ => by
    by_cases h : n < 128
    · rw [numB_small h]; simp
    · rw [numB_big (by omega)]
      have : n / 128 < 128 ^ k := by rw [Nat.div_lt_iff_lt_mul (by omega)]; rw [Nat.pow_succ] at hn; omega
      by_cases hk : k = 0
      · subst hk; simp at hn; omega
      · have := numB_length k (n / 128) this (by omega)
        simp; omega

theorem or128 : ∀ k : Fin 256, bitop .or .u8 (k.val : Int) 128 = ((UInt8.ofNat (k.val % 128 + 128)).toNat : Int) := by decide
theorem or_byte (n : Nat) : bitop .or .u8 ((n : Int) % 256) 128 = ((UInt8.ofNat (n % 128 + 128)).toNat : Int) := by
  have := or128 ⟨n % 256, by omega⟩
  simp only at this
  have e : n % 256 % 128 = n % 128 := by omega
  rw [e] at this
  rw [← this]
  congr 1
theorem low_byte {n : Nat} (h : n < 128) : ((n : Int) % 256) = ((UInt8.ofNat n).toNat : Int) := by
  simp

theorem num_loop {i : Nat} : ∀ (n : Nat) (h : Heap) (l : List UInt8) (e : Env), n < 2 ^ 64 → Wr h i l → l.length + (numB n).length ≤ 140737488353280 → e.get 0 = [.sc (.ptr i 0 1)] → e.get 1 = [.sc (.int .u64 n)] →
    ∃ (h' : Heap) (m : List UInt8) (k : Nat), loopE F O (.loop [0, 1] M.b16_0) e h = some (.exit 0, [(0, [.sc (.ptr i 0 1)]), (1, [.sc (.int .u64 k)]), (5, [.sc (.bool false)])], h') ∧ WStep h i l h' m ∧ k < 128 ∧ numB n = m ++ [UInt8.ofNat k] := by
  intro n
  induction n using Nat.strongRecOn with
  | _ n ih =>
    intro h l e hn w hl e0 e1
    by_cases hb : n < 128
    · refine ⟨h, [], n, loop_exit ?_, WStep.refl w, hb, by rw [numB_small hb]; rfl⟩
      have c1 : ¬ (128 : Int) ≤ n := by omega
      simp [M.b16_0, e0, e1, c1]
    · obtain ⟨x, hi, hx, hd⟩ := w
      rw [numB_big (Nat.le_of_not_lt hb)] at hl
      simp only [List.length_cons] at hl
      obtain ⟨b, hbd⟩ : ∃ b, b = UInt8.ofNat (n % 128 + 128) := ⟨_, rfl⟩
      have ob := or_byte n
      rw [← hbd] at ob
      obtain ⟨a1, i1, f0, f1, st⟩ := wr_app1 hi hx hd b (by simp [lim]; omega)
      obtain ⟨h', m, k, r1, r2, r3, r4⟩ := ih (n / 128) (by omega) _ _ [(0, [.sc (.ptr i 0 1)]), (1, [.sc (.int .u64 ((n / 128 : Nat) : Int))])] (by omega) st.wr (by simp; omega) rfl rfl
      refine ⟨h', _, k, loop_step ?_ r1, st.trans r2, r3, by rw [numB_big (Nat.le_of_not_lt hb), r4, hbd]; rfl⟩
      have c1 : (128 : Int) ≤ n := by omega
      have sh : shAmt .u64 7 = 7 := rfl
      have fd : (n : Int).fdiv 128 = ((n / 128 : Nat) : Int) := by rw [Int.fdiv_eq_ediv_of_nonneg _ (by omega)]; omega
      simp [M.b16_0, e0, e1, nilckA, fldA, loadA, storeA, f0, f1, hi, i1, c1, wu8', ob, a1, sh, fd]

theorem spec16 {h : Heap} {i : Nat} {l : List UInt8} {n : Nat} (hn : n < 2 ^ 64) (w : Wr h i l) (hl : l.length ≤ 140737488352256) : ∃ h', call 16 [[.sc (.ptr i 0 1)], [.sc (.int .u64 n)]] h = some ([], h') ∧ WStep h i l h' (numB n) := by
  have hlen := numB_length 10 n (Nat.lt_of_lt_of_le hn (by decide)) (by omega)
  obtain ⟨h1, m, k, r1, r2, r3, r4⟩ := num_loop n h l [(0, [.sc (.ptr i 0 1)]), (1, [.sc (.int .u64 n)])] hn w (by omega) rfl rfl
  have r1' := loop_run r1
  obtain ⟨x, hi, hx, hd⟩ := r2.wr
  have hml : m.length ≤ 10 := by rw [r4] at hlen; simp at hlen; omega
  obtain ⟨b, hbd⟩ : ∃ b, b = UInt8.ofNat k := ⟨_, rfl⟩
  have lb := low_byte r3
  rw [← hbd] at lb
  obtain ⟨a1, i1, f0, f1, st⟩ := wr_app1 hi hx hd b (by simp [lim]; omega)
  refine ⟨_, callE_of (x := .normal) (e := []) (h' := (appH h1 x 5 1 1 [.int .u8 b.toNat]).set i ⟨.var, [appV h1 x 1 1]⟩) rfl (by rfl : F 16 = some M.a16) (by
    simp [M.a16, r1', nilckA, fldA, loadA, storeA, f0, f1, hi, i1, wu8', lb, a1]) (.inl rfl) rfl, ?_⟩
  rw [r4, ← hbd]
  exact (r2.trans st).trim w []
end Go.Proofs.Ytokdnndocipilaa
