/- Chapter 1: rows of bytes of one's own: ref1.Num, both Int, both Text, Bytes, NewWriter, Pick. -/
import Derived.Test.YtokdnndocipilaaS1
set_option linter.unusedVariables false
set_option linter.unusedSimpArgs false
set_option maxRecDepth 100000
namespace Go.Proofs.Ytokdnndocipilaa
open Go.Abs

/-- from one state of a row to a later one: m was appended -/
structure OStep (h : Heap) (x : SV) (l : List UInt8) (h' : Heap) (x' : SV) (m : List UInt8) : Prop where
  own : Own h' x' 5 1 (l ++ m).length (Go.Abs.bytes (l ++ m))
  mod : Mod (blk x) h h'
  new : ∀ j, blk x' j → blk x j ∨ h.length ≤ j

theorem OStep.refl {h : Heap} {x : SV} {l : List UInt8} (hx : Own h x 5 1 l.length (Go.Abs.bytes l)) : OStep h x l h x [] := ⟨by simpa using hx, Mod.refl _ _, fun j hj => .inl hj⟩
theorem OStep.trans {h h' h'' : Heap} {x x' x'' : SV} {l m m' : List UInt8} (a : OStep h x l h' x' m) (b : OStep h' x' (l ++ m) h'' x'' m') : OStep h x l h'' x'' (m ++ m') :=
  ⟨by rw [← List.append_assoc]; exact b.own, a.mod.trans b.mod fun j hj hs => (a.new j hs).resolve_right (by omega), fun j hj => by
    rcases b.new j hj with h1 | h1
    · exact a.new j h1
    · exact .inr (Nat.le_trans a.mod.1 h1)⟩

theorem own_app {h : Heap} {x : SV} {l : List UInt8} (hx : Own h x 5 1 l.length (Go.Abs.bytes l)) {y : AV} {m : List UInt8} (hy : srcOf h 1 y = some (m.length, Go.Abs.bytes m)) (hl : l.length + m.length ≤ lim) :
    appA h 5 1 1 (.sc x) y = some ([.sc (appV h x 1 m.length)], appH h x 5 1 m.length (Go.Abs.bytes m)) ∧ OStep h x l (appH h x 5 1 m.length (Go.Abs.bytes m)) (appV h x 1 m.length) m := by
  refine ⟨appA_own hx hy (by simpa using hl), ?_, app_mod, fun j hj => (blk_app j hj).imp id fun e => by omega⟩
  have := app_own (e := 5) hx (m := m.length) (ys := Go.Abs.bytes m) (by simp [bytes_length])
  rw [← bytes_append, ← List.length_append] at this
  exact this

theorem own_app1 {h : Heap} {x : SV} {l : List UInt8} (hx : Own h x 5 1 l.length (Go.Abs.bytes l)) (b : UInt8) (hl : l.length < lim) :
    appA h 5 1 1 (.sc x) (.imm 1 [.int .u8 b.toNat]) = some ([.sc (appV h x 1 1)], appH h x 5 1 1 [.int .u8 b.toNat]) ∧ OStep h x l (appH h x 5 1 1 [.int .u8 b.toNat]) (appV h x 1 1) [b] :=
  own_app hx (y := .imm 1 [.int .u8 b.toNat]) (m := [b]) rfl (by simp; omega)

/-- a row that is new behind a call -/
structure Fresh (h h' : Heap) (y : SV) (l : List UInt8) : Prop where
  own : Own h' y 5 1 l.length (Go.Abs.bytes l)
  mod : Mod (fun _ => False) h h'
  new : ∀ j, blk y j → h.length ≤ j

theorem own_nils (h : Heap) : Own h .nils 5 1 ([] : List UInt8).length (Go.Abs.bytes []) := .inl ⟨rfl, rfl, rfl⟩
theorem OStep.fresh {h h' : Heap} {y : SV} {m : List UInt8} (a : OStep h .nils [] h' y m) : Fresh h h' y m :=
  ⟨a.own, a.mod, fun j hj => (a.new j hj).resolve_left (fun h => h)⟩

theorem Fresh.trim {h h' : Heap} {y : SV} {l : List UInt8} (a : Fresh h h' y l) : Fresh h (Go.Abs.trim h h' [.sc y]) y l := by
  refine ⟨?_, trim_mod' a.mod, a.new⟩
  unfold Go.Abs.trim
  split
  · rename_i hc
    simp only [Bool.and_eq_true] at hc
    rcases a.own with h1 | ⟨b, rfl, _⟩
    · exact .inl h1
    · simp [pureT, pureV, pureS] at hc
  · exact a.own

theorem rem_byte (n : Nat) : ((n : Int).tmod 128 + 128) % 18446744073709551616 % 256 = ((UInt8.ofNat (n % 128 + 128)).toNat : Int) := by
  rw [Int.tmod_eq_emod_of_nonneg (by omega)]
  simp
theorem quo_nat (n : Nat) (hn : n < 2 ^ 64) : IntKind.u64.wrap ((n : Int).tdiv 128) = ((n / 128 : Nat) : Int) := by
  rw [Int.tdiv_eq_ediv_of_nonneg (by omega), wu64']
  omega

theorem rnum_loop : ∀ (n : Nat) (h : Heap) (l : List UInt8) (x : SV) (e : Env), n < 2 ^ 64 → Own h x 5 1 l.length (Go.Abs.bytes l) → l.length + (numB n).length ≤ 140737488353280 → e.get 0 = [.sc (.int .u64 n)] → e.get 3 = [.sc x] →
    ∃ (h' : Heap) (x' : SV) (m : List UInt8) (k : Nat), loopE F O (.loop [0, 3] M.b17_0) e h = some (.exit 0, [(0, [.sc (.int .u64 k)]), (3, [.sc x']), (5, [.sc (.bool false)])], h') ∧ OStep h x l h' x' m ∧ k < 128 ∧ numB n = m ++ [UInt8.ofNat k] := by
  intro n
  induction n using Nat.strongRecOn with
  | _ n ih =>
    intro h l x e hn w hl e0 e1
    by_cases hb : n < 128
    · refine ⟨h, x, [], n, loop_exit ?_, OStep.refl w, hb, by rw [numB_small hb]; rfl⟩
      have c1 : ¬ (128 : Int) ≤ n := by omega
      simp [M.b17_0, e0, e1, c1]
    · rw [numB_big (Nat.le_of_not_lt hb)] at hl
      simp only [List.length_cons] at hl
      obtain ⟨b, hbd⟩ : ∃ b, b = UInt8.ofNat (n % 128 + 128) := ⟨_, rfl⟩
      have ob := rem_byte n
      rw [← hbd] at ob
      obtain ⟨a1, st⟩ := own_app1 w b (by simp [lim]; omega)
      obtain ⟨h', x', m, k, r1, r2, r3, r4⟩ := ih (n / 128) (by omega) _ _ _ [(0, [.sc (.int .u64 ((n / 128 : Nat) : Int))]), (3, [.sc (appV h x 1 1)])] (by omega) st.own (by simp; omega) rfl rfl
      refine ⟨h', x', _, k, loop_step ?_ r1, st.trans r2, r3, by rw [numB_big (Nat.le_of_not_lt hb), r4, hbd]; rfl⟩
      have c1 : (128 : Int) ≤ n := by omega
      have qn := quo_nat n hn
      simp [M.b17_0, e0, e1, c1, wu64', wu8', ob, a1] at qn ⊢
      exact qn

theorem spec17 (h : Heap) {n : Nat} (hn : n < 2 ^ 64) : ∃ h' y, call 17 [[.sc (.int .u64 n)]] h = some ([.sc y], h') ∧ Fresh h h' y (numB n) := by
  have hlen := numB_length 10 n (Nat.lt_of_lt_of_le hn (by decide)) (by omega)
  obtain ⟨h1, x, m, k, r1, r2, r3, r4⟩ := rnum_loop n h [] .nils [(0, [.sc (.int .u64 n)]), (3, [.sc .nils])] hn (own_nils h) (by simp; omega) rfl rfl
  have r1' := loop_run r1
  have hml : m.length ≤ 10 := by rw [r4] at hlen; simp at hlen; omega
  obtain ⟨b, hbd⟩ : ∃ b, b = UInt8.ofNat k := ⟨_, rfl⟩
  have lb := low_byte r3
  rw [← hbd] at lb
  obtain ⟨a1, st⟩ := own_app1 r2.own b (by simp [lim]; omega)
  refine ⟨_, _, callE_of (x := .ret) (e := [(2, [.sc (appV h1 x 1 1)])]) (h' := appH h1 x 5 1 1 [.int .u8 b.toNat]) rfl (by rfl : F 17 = some M.a17) (by
    simp [M.a17, r1', wu8', lb, a1]) (.inr rfl) rfl, ?_⟩
  rw [r4, ← hbd]
  exact (r2.trans st).fresh.trim

/-- the number that a number with a sign is laid as -/
def zz (n : Int) : Nat := if n < 0 then 2 * (-(n + 1)).toNat + 1 else 2 * n.toNat

theorem spec19 (h : Heap) {n : Int} (h1 : -9223372036854775808 ≤ n) (h2 : n < 9223372036854775808) : ∃ h' y, call 19 [[.sc (.int .i64 n)]] h = some ([.sc y], h') ∧ Fresh h h' y (numB (zz n)) := by
  have hz : zz n < 2 ^ 64 := by unfold zz; split <;> omega
  obtain ⟨h', y, e1, fr⟩ := spec17 h hz
  refine ⟨_, y, callE_of (x := .ret) (e := [(2, [.sc y])]) (h' := h') rfl (by rfl : F 19 = some M.a19) ?_ (.inr rfl) rfl, fr.trim⟩
  by_cases hn : n < 0
  · have e2 : IntKind.u64.wrap (IntKind.u64.wrap (IntKind.u64.wrap (IntKind.i64.wrap (0 - IntKind.i64.wrap (n + 1))) * 2) + 1) = (zz n : Int) := by
      rw [wi64 (n := n + 1) (by omega) (by omega), wi64 (by omega) (by omega), wu64', wu64', wu64']
      unfold zz
      rw [if_pos hn]
      omega
    simp [M.a19, hn] at e2 ⊢
    simp [e2, e1]
  · have e2 : IntKind.u64.wrap (IntKind.u64.wrap n * 2) = (zz n : Int) := by
      rw [wu64', wu64']
      unfold zz
      rw [if_neg hn]
      omega
    simp [M.a19, hn] at e2 ⊢
    simp [e2, e1]
end Go.Proofs.Ytokdnndocipilaa
