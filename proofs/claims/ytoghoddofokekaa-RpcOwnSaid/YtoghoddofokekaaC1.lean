/- Chapter 5: names. -/
import Derived.Test.YtoghoddofokekaaK0
set_option linter.unusedVariables false
set_option linter.unusedSimpArgs false
set_option maxRecDepth 100000
namespace Go.Proofs.Ytoghoddofokekaa
open Go.Abs

/-- a letter of a name -/
def up (b : UInt8) : Bool := decide (65 ≤ b.toNat) && decide (b.toNat ≤ 90)
def nameB (l : List UInt8) : Bool := decide (l.length = 3) && l.all up

theorem up_cases (b : UInt8) : (up b = true ∧ ¬ (b.toNat : Int) < 65 ∧ ¬ 90 < (b.toNat : Int)) ∨ (up b = false ∧ (b.toNat : Int) < 65) ∨ (up b = false ∧ ¬ (b.toNat : Int) < 65 ∧ 90 < (b.toNat : Int)) := by
  unfold up
  by_cases h1 : (b.toNat : Int) < 65
  · exact .inr (.inl ⟨by simp; omega, h1⟩)
  · by_cases h2 : 90 < (b.toNat : Int)
    · exact .inr (.inr ⟨by simp; omega, h1, h2⟩)
    · exact .inl ⟨by simp; omega, h1, h2⟩

theorem name_loop {l : List UInt8} {h : Heap} (hl : l.length < 9223372036854775808) : ∀ (m k : Nat) (e : Env), k + m = l.length → e.get 0 = [.sc (.str l)] → e.get 3 = [.sc (.int .i64 k)] →
    loopE F O (.loop [0, 3] M.b20_0) e h = some (if (l.drop k).all up then (.exit 0, [(0, [.sc (.str l)]), (3, [.sc (.int .i64 l.length)]), (7, [.sc (.bool false)])], h) else (.ret, [(2, [.sc (.bool false)])], h))
  | 0, k, e, hk, e0, e3 => by
    have : k = l.length := by omega
    subst this
    rw [List.drop_length]
    exact exitM fun R RO RD RT E => by simp [M.b20_0, E.eqs, e0, e3]
  | m + 1, k, e, hk, e0, e3 => by
    have hlt : k < l.length := by omega
    obtain ⟨b, hb⟩ : ∃ b, l[k]? = some b := ⟨_, List.getElem?_eq_getElem hlt⟩
    have hd : l.drop k = b :: l.drop (k + 1) := by
      rw [List.drop_eq_getElem_cons hlt]
      congr 1
      rw [List.getElem?_eq_getElem hlt] at hb
      injection hb
    have c1 : (k : Int) < l.length := by omega
    have w1 : IntKind.i64.wrap ((k : Int) + 1) = (k : Int) + 1 := wi64 (by omega) (by omega)
    rw [hd, List.all_cons]
    rcases up_cases b with ⟨u, u1, u2⟩ | ⟨u, u1⟩ | ⟨u, u1, u2⟩
    · rw [u, Bool.true_and]
      have ih := name_loop (l := l) (h := h) hl m (k + 1) [(0, [.sc (.str l)]), (3, [.sc (.int .i64 ((k + 1 : Nat) : Int))])] (by omega) rfl rfl
      refine stepM (fun R RO RD RT E => ?_) ih
      clear ih
      simp [M.b20_0, E.eqs, e0, e3, c1, hb, u1, u2, w1]
    · rw [u, Bool.false_and, if_neg (by simp)]
      exact retM fun R RO RD RT E => by simp [M.b20_0, E.eqs, e0, e3, c1, hb, u1]
    · rw [u, Bool.false_and, if_neg (by simp)]
      exact retM fun R RO RD RT E => by simp [M.b20_0, E.eqs, e0, e3, c1, hb, u1, u2]

theorem spec20 (h : Heap) {l : List UInt8} (hl : l.length < 9223372036854775808) : call 20 [[.sc (.str l)]] h = some ([.sc (.bool (nameB l))], h) := by
  have lo := name_loop (h := h) hl l.length 0 [(0, [.sc (.str l)]), (3, [.sc (.int .i64 0)])] (by omega) rfl rfl
  rw [List.drop_zero] at lo
  have lo := loop_run lo
  refine callX rfl (by rfl : F 20 = some M.a20) (fun R RO RD RT E => ?_)
  have lo := E.run lo
  unfold nameB
  by_cases ha : l.all up = true
  · rw [if_pos ha] at lo
    rw [ha]
    have e1 : ((l.length : Int) = 3) ↔ l.length = 3 := by omega
    simp [M.a20, E.eqs, lo, e1]
  · have ha : l.all up = false := by simpa using ha
    rw [ha, if_neg (by simp)] at lo
    rw [ha, Bool.and_false]
    simp [M.a20, E.eqs, lo]

theorem rname_loop {l : List UInt8} {h : Heap} (hl : l.length = 3) : ∀ (m k : Nat) (e : Env), k + m = 3 → e.get 0 = [.sc (.str l)] → e.get 3 = [.sc (.int .i64 k)] →
    loopE F O (.loop [0, 3] M.b21_0) e h = some (if (l.drop k).all up then (.exit 0, [(0, [.sc (.str l)]), (3, [.sc (.int .i64 3)]), (8, [.sc (.bool false)])], h) else (.ret, [(2, [.sc (.bool false)])], h))
  | 0, k, e, hk, e0, e3 => by
    have : k = 3 := by omega
    subst this
    have hd : l.drop 3 = [] := List.drop_eq_nil_of_le (by omega)
    rw [hd]
    exact exitM fun R RO RD RT E => by simp [M.b21_0, E.eqs, e0, e3]
  | m + 1, k, e, hk, e0, e3 => by
    have hlt : k < l.length := by omega
    obtain ⟨b, hb⟩ : ∃ b, l[k]? = some b := ⟨_, List.getElem?_eq_getElem hlt⟩
    have hd : l.drop k = b :: l.drop (k + 1) := by
      rw [List.drop_eq_getElem_cons hlt]
      congr 1
      rw [List.getElem?_eq_getElem hlt] at hb
      injection hb
    have c1 : (k : Int) < 3 := by omega
    have w1 : IntKind.i64.wrap ((k : Int) + 1) = (k : Int) + 1 := wi64 (by omega) (by omega)
    rw [hd, List.all_cons]
    rcases up_cases b with ⟨u, u1, u2⟩ | ⟨u, u1⟩ | ⟨u, u1, u2⟩
    · rw [u, Bool.true_and]
      have ih := rname_loop (l := l) (h := h) hl m (k + 1) [(0, [.sc (.str l)]), (3, [.sc (.int .i64 ((k + 1 : Nat) : Int))])] (by omega) rfl rfl
      refine stepM (fun R RO RD RT E => ?_) ih
      clear ih
      simp [M.b21_0, E.eqs, e0, e3, c1, hb, u1, u2, w1]
    · rw [u, Bool.false_and, if_neg (by simp)]
      exact retM fun R RO RD RT E => by simp [M.b21_0, E.eqs, e0, e3, c1, hb, u1]
    · rw [u, Bool.false_and, if_neg (by simp)]
      exact retM fun R RO RD RT E => by simp [M.b21_0, E.eqs, e0, e3, c1, hb, u1, u2]

theorem spec21 (h : Heap) {l : List UInt8} : call 21 [[.sc (.str l)]] h = some ([.sc (.bool (nameB l))], h) := by
  refine callX rfl (by rfl : F 21 = some M.a21) (fun R RO RD RT E => ?_)
  unfold nameB
  by_cases hl : l.length = 3
  · have lo := rname_loop (h := h) hl 3 0 [(0, [.sc (.str l)]), (3, [.sc (.int .i64 0)])] (by omega) rfl rfl
    rw [List.drop_zero] at lo
    have lo := E.run (loop_run lo)
    by_cases ha : l.all up = true
    · rw [if_pos ha] at lo
      rw [ha]
      simp [M.a21, E.eqs, lo, hl]
    · have ha : l.all up = false := by simpa using ha
      rw [ha, if_neg (by simp)] at lo
      rw [ha, Bool.and_false]
      simp [M.a21, E.eqs, lo, hl]
  · have e1 : ¬ ((l.length : Int) = 3) := by omega
    simp [M.a21, E.eqs, e1, hl]
end Go.Proofs.Ytoghoddofokekaa
