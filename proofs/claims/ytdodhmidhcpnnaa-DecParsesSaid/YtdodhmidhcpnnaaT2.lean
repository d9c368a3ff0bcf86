/- Chapter 2, the document's: a number's text. -/
import Derived.Test.YtdodhmidhcpnnaaT1
import Derived.Test.YtdodhmidhcpnnaaP0
set_option linter.unusedVariables false
set_option linter.unusedSimpArgs false
set_option maxRecDepth 100000
namespace Go.Proofs.Ytdodhmidhcpnnaa
open Go.Abs

/-- a row of one byte as a text -/
theorem b2s_one {g : Heap} {j e : Nat} {c : UInt8} (hj : g[j]? = some ⟨.row e 1, [.int .u8 (c.toNat : Int)]⟩) : b2sA g [.sc (.sl j 0 1 1)] = some ([.sc (.str [c])], g) := by
  have hr : Row g (.sl j 0 1 1) 1 1 (Go.Abs.bytes [c]) := .inr ⟨j, 0, 1, _, rfl, hj, rfl, by decide, by simp [BK.fits], rfl⟩
  exact b2sA_row hr

theorem byte_dig {d : Nat} (h : d < 10) : IntKind.u8.wrap (IntKind.u64.wrap (48 + (d : Int))) = ((UInt8.ofNat (48 + d)).toNat : Int) := by
  rw [dig_nat h, wu64', wu8']; omega
theorem mod10 (d : Nat) : d % 10 < 10 := Nat.mod_lt _ (by decide)
theorem ten_put : (digC 0).set 0 (.int .u64 10) = digC 10 := rfl

/-- what the digits ahead of a text are -/
def ahead (d : Nat) (s : List UInt8) : List UInt8 := if d = 0 ∧ s ≠ [] then s else txt d ++ s
theorem ahead_step {d : Nat} {s : List UInt8} (h : ¬ (d = 0 ∧ s ≠ [])) : ahead d s = ahead (d / 10) (UInt8.ofNat (48 + d % 10) :: s) := by
  unfold ahead
  rw [if_neg h]
  by_cases hd : d < 10
  · have e : d / 10 = 0 := by omega
    have e2 : d % 10 = d := by omega
    rw [e, e2, if_pos ⟨rfl, by simp⟩]
    unfold txt
    rw [digs_small hd]
    rfl
  · rw [if_neg (fun c => by omega), txt_big hd]
    simp

theorem rtext_loop {H0 : Heap} {j1 j2 : Nat} (h12 : j1 ≠ j2) : ∀ (d : Nat) (s : List UInt8) (hh : Heap) (e : Env), d < 4294967296 ^ 15 → s.length + (txt d).length ≤ 1000 → hh[j1]? = some ⟨.var, digC d⟩ → hh[j2]? = some ⟨.var, digC 10⟩ →
    e.get 1 = [.sc (.ptr j1 0 16)] → e.get 3 = [.sc (.str s)] → e.get 4 = [.sc (.ptr j2 0 16)] →
    ∃ e' h', loopE F O (.loop [1, 3, 4] M.b73_0) e hh = some (.exit 0, e', h') ∧ e'.get 3 = [.sc (.str (ahead d s))] ∧ Mod (fun j => j = j1) hh h' := by
  intro d
  induction d using Nat.strongRecOn with
  | _ d ih =>
    intro s hh e hd hl g1 g2 e1 e3 e4
    have sz := fun h => spec77 h (a := d) (Nat.lt_of_lt_of_le hd (by decide))
    have l1 : j1 < hh.length := lt_of_get g1
    have l2 : j2 < hh.length := lt_of_get g2
    by_cases hc : d = 0 ∧ s ≠ []
    · obtain ⟨rfl, hs⟩ := hc
      rw [decide_eq_true rfl] at sz
      refine ⟨[(1, [.sc (.ptr j1 0 16)]), (3, [.sc (.str s)]), (4, [.sc (.ptr j2 0 16)]), (14, [.sc (.bool false)])], hh, exitM fun R RO RD RT E => ?_, by unfold ahead; rw [if_pos ⟨rfl, hs⟩]; rfl, Mod.refl _ _⟩
      have hb : s.isEmpty = false := by cases s <;> simp_all
      simp [M.b73_0, E.eqs, e1, e3, e4, hb, hs, sz, g1, loadA]
    · rw [ahead_step hc]
      have s1 := fun h => spec81 h (a := d) (b := 10) (by decide) (by decide) (Nat.lt_of_lt_of_le hd (by decide))
      have m10 := mod10 d
      obtain ⟨c, hcd⟩ : ∃ c, c = UInt8.ofNat (48 + d % 10) := ⟨_, rfl⟩
      have bd := byte_dig m10
      rw [← hcd] at bd ⊢
      have lo : (digC (d % 10))[0]? = some (.int .u64 ((d % 10 : Nat) : Int)) := by
        have := digC_get (N := d % 10) (i := 0) (by decide)
        rw [Nat.pow_zero, Nat.div_one, Nat.mod_eq_of_lt (by omega : d % 10 < 4294967296)] at this
        exact this
      have lo' : ∀ q, (digC (d % 10))[0]'q = .int .u64 ((d % 10 : Nat) : Int) := fun q => get_of lo q
      obtain ⟨h1, hh1⟩ : ∃ h1 : Heap, h1 = (hh ++ [⟨.var, digC (d / 10)⟩, ⟨.var, digC (d % 10)⟩, ⟨.row 5 1, [.int .u8 (c.toNat : Int)]⟩] : Heap).set j1 ⟨.var, digC (d / 10)⟩ := ⟨_, rfl⟩
      have m1 : Mod (fun j => j = j1) hh h1 := by
        rw [hh1]
        exact (Mod.app _ _ _).trans (Mod.set (S := fun j => j = j1) _ _ rfl) fun _ _ h => h
      have k1 : ∀ t : Heap, (hh ++ t)[j1]? = some ⟨.var, digC d⟩ := fun t => by rw [List.getElem?_append_left l1]; exact g1
      have k2 : ∀ t : Heap, (hh ++ t)[j2]? = some ⟨.var, digC 10⟩ := fun t => by rw [List.getElem?_append_left l2]; exact g2
      have k3 : h1[j1]? = some ⟨.var, digC (d / 10)⟩ := by rw [hh1]; exact get_set_same (k1 _)
      have k4 : h1[j2]? = some ⟨.var, digC 10⟩ := by rw [hh1, get_set_other (by omega)]; exact k2 _
      have b2 := b2s_one (g := hh ++ [⟨.var, digC (d / 10)⟩, ⟨.var, digC (d % 10)⟩, ⟨.row 5 1, [.int .u8 (c.toNat : Int)]⟩]) (j := hh.length + 2) (e := 5) (c := c) (by simp)
      have hdl : d / 10 < d ∨ (d = 0 ∧ s = []) := by
        by_cases h0 : d = 0
        · right
          refine ⟨h0, ?_⟩
          by_cases hs : s = []
          · exact hs
          · exact absurd ⟨h0, hs⟩ hc
        · left; omega
      have hlen : (c :: s).length + (if d / 10 = 0 then 0 else (txt (d / 10)).length) ≤ s.length + (txt d).length := by
        by_cases h10 : d < 10
        · have e0 : d / 10 = 0 := by omega
          rw [if_pos e0]
          unfold txt
          rw [digs_small h10]
          simp
        · have e0 : ¬ d / 10 = 0 := by omega
          rw [if_neg e0, txt_big h10]
          simp
          omega
      have go : ∃ e' h', loopE F O (.loop [1, 3, 4] M.b73_0) [(1, [.sc (.ptr j1 0 16)]), (3, [.sc (.str (c :: s))]), (4, [.sc (.ptr j2 0 16)])] h1 = some (.exit 0, e', h') ∧ e'.get 3 = [.sc (.str (ahead (d / 10) (c :: s)))] ∧ Mod (fun j => j = j1) h1 h' := by
        by_cases h0 : d / 10 = 0
        · have sz0 := fun h => spec77 h (a := 0) (by decide)
          rw [decide_eq_true rfl] at sz0
          rw [h0] at k3 ⊢
          refine ⟨[(1, [.sc (.ptr j1 0 16)]), (3, [.sc (.str (c :: s))]), (4, [.sc (.ptr j2 0 16)]), (14, [.sc (.bool false)])], h1, exitM fun R RO RD RT E => ?_, by unfold ahead; rw [if_pos ⟨rfl, by simp⟩]; rfl, Mod.refl _ _⟩
          simp [M.b73_0, E.eqs, sz0, k3, loadA]
        · rw [if_neg h0] at hlen
          exact ih (d / 10) (by omega) (c :: s) h1 _ (by omega) (by omega) k3 k4 rfl rfl rfl
      obtain ⟨e', h', r1, r2, r3⟩ := go
      have l3 : s.length + 1 ≤ lim := by simp [lim]; omega
      have l4 : 1 + s.length ≤ lim := by omega
      have l5 : 1 ≤ lim := by simp [lim]
      refine ⟨e', h', stepM (fun R RO RD RT E => ?_) r1, r2, m1.trans r3 fun _ _ h => h⟩
      clear r1 r2 r3 ih hl hlen hdl m1 k3 k4 hd
      rw [hh1]
      by_cases h0 : d = 0
      · have hs : s = [] := by
          by_cases hs : s = []
          · exact hs
          · exact absurd ⟨h0, hs⟩ hc
        subst hs
        generalize d / 10 = q at *
        generalize d % 10 = r at *
        simp [M.b73_0, E.eqs, e1, e3, e4, k1, k2, g1, g2, loadA, storeA, zeros_digC, s1, lo, lo', freshB, bd, b2, l3, l4, l5]
      · rw [decide_eq_false h0] at sz
        generalize d / 10 = q at *
        generalize d % 10 = r at *
        by_cases hs : s = []
        · subst hs
          simp [M.b73_0, E.eqs, e1, e3, e4, k1, k2, g1, g2, loadA, storeA, zeros_digC, s1, lo, lo', freshB, bd, b2, l3, l4, l5]
        · have hb : s.isEmpty = false := by cases s <;> simp_all
          simp [M.b73_0, E.eqs, e1, e3, e4, hs, hb, sz, k1, k2, g1, g2, loadA, storeA, zeros_digC, s1, lo, lo', freshB, bd, b2, l3, l4, l5]

theorem ahead_nil (d : Nat) : ahead d [] = txt d := by unfold ahead; rw [if_neg (by simp)]; simp

theorem spec73 (h : Heap) {d : Nat} (hd : d < 10 ^ 60) : call 73 [[.agg (digC d)]] h = some ([.sc (.str (txt d))], h) := by
  have hl := txt_length hd (by decide)
  obtain ⟨e', h', lo, r2, m⟩ := rtext_loop (H0 := h) (j1 := h.length) (j2 := h.length + 1) (by omega) d [] (h ++ [⟨.var, digC d⟩, ⟨.var, digC 10⟩]) [(1, [.sc (.ptr h.length 0 16)]), (3, [.sc (.str [])]), (4, [.sc (.ptr (h.length + 1) 0 16)])] (Nat.lt_trans hd (by decide)) (by simp; omega) (by simp) (by simp) rfl rfl rfl
  rw [ahead_nil] at r2
  have lo := loop_run lo
  have tm : trim h h' [.sc (.str (txt d))] = h := trim_mod (by simp [pureT, pureV, pureS]) ((Mod.app (fun j => j = h.length) h _).trans m fun _ _ h => h) fun j hj e => by omega
  refine callX rfl (by rfl : F 73 = some M.a73) (fun R RO RD RT E => ?_)
  have lo := E.run lo
  simp [M.a73, E.eqs, zeros_digC, ten_put, lo, r2, freshB, loadA, storeA, tm]

/-- a number's text -/
def wtxt (n : Int) : List UInt8 := if n < 0 then 45 :: txt n.natAbs else txt n.natAbs
theorem InW.abs60 {n : Int} (h : InW n) : n.natAbs < 10 ^ 60 := Nat.lt_of_le_of_lt (by unfold InW at h; omega : n.natAbs ≤ 170141183460469231731687303715884105728) (by decide)

end Go.Proofs.Ytdodhmidhcpnnaa
