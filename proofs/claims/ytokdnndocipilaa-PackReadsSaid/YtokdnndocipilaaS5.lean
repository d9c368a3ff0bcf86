/- Chapter 1: copies, seals and what is unsealed. -/
import Derived.Test.YtokdnndocipilaaS4
set_option linter.unusedVariables false
set_option linter.unusedSimpArgs false
set_option maxRecDepth 100000
namespace Go.Proofs.Ytokdnndocipilaa
open Go.Abs

theorem copy_app {h : Heap} {y : SV} {l : List UInt8} (hy : Row h y 1 l.length (Go.Abs.bytes l)) (hl : l.length ≤ 140737488355328) :
    appA (h ++ [⟨.row 5 1, []⟩]) 5 1 1 (.sc (.sl h.length 0 0 0)) (.sc y) = some ([.sc (.sl h.length 0 l.length l.length)], h ++ [⟨.row 5 1, Go.Abs.bytes l⟩]) := by
  have hy1 := srcOf_row (hy.mod (Mod.app (fun _ => False) h [⟨.row 5 1, []⟩]) fun _ _ h => h)
  have hlim : l.length ≤ lim := by simp [lim]; omega
  simp [appA, hy1, hlim]

theorem copy_fresh (h : Heap) (l : List UInt8) : Fresh h (h ++ [⟨.row 5 1, Go.Abs.bytes l⟩]) (.sl h.length 0 l.length l.length) l :=
  ⟨by simpa using new_own (h := h) (sz := 1) (n := l.length) (cs := Go.Abs.bytes l) 5 (by simp [bytes_length]), Mod.app _ _ _, fun j hj => by have : j = h.length := hj; omega⟩

theorem Fresh.row {h h' : Heap} {y : SV} {l : List UInt8} (a : Fresh h h' y l) : Row h' y 1 l.length (Go.Abs.bytes l) := a.own.row
theorem Fresh.keep {h h' : Heap} {y z : SV} {l : List UInt8} {n sz : Nat} {cs : List SV} (a : Fresh h h' y l) (hz : Row h z sz n cs) : Row h' z sz n cs := hz.mod a.mod fun _ _ h => h
theorem Fresh.app {h h1 h2 : Heap} {x y : SV} {l m : List UInt8} (a : Fresh h h1 x l) (st : OStep h1 x l h2 y m) : Fresh h h2 y (l ++ m) :=
  ⟨st.own, a.mod.trans st.mod fun j hj hb => absurd (a.new j hb) (by omega), fun j hj => by
    rcases st.new j hj with h2 | h2
    · exact a.new j h2
    · exact Nat.le_trans a.mod.1 h2⟩
theorem Fresh.after {h h1 h2 : Heap} {y : SV} {l : List UInt8} (m : Mod (fun _ => False) h h1) (a : Fresh h1 h2 y l) : Fresh h h2 y l :=
  ⟨a.own, m.trans a.mod fun _ _ h => h, fun j hj => Nat.le_trans m.1 (a.new j hj)⟩
theorem Fresh.nils {h h' : Heap} (m : Mod (fun _ => False) h h') : Fresh h h' .nils [] := ⟨own_nils _, m, fun j hj => hj.elim⟩

theorem spec13 (h : Heap) : call 13 [] h = some ([.sc (.bool true)], h) := callE_orc rfl

theorem spec22 {h : Heap} {i : Nat} {l : List UInt8} (w : Wr h i l) (hl : l.length ≤ 140737488353280) : ∃ h' z, call 22 [[.sc (.ptr i 0 1)]] h = some ([.sc z], h') ∧ Fresh h h' z l := by
  obtain ⟨x, hi, hx, hd⟩ := w
  have f0 : freshB h i 1 = true := freshB_of hi rfl
  have hi1 : (h ++ [(⟨.row 5 1, []⟩ : Blk)])[i]? = some ⟨.var, [x]⟩ := by rw [List.getElem?_append_left (lt_of_get hi)]; exact hi
  have f1 : freshB (h ++ [⟨.row 5 1, []⟩]) i 1 = true := freshB_of hi1 rfl
  have a1 := copy_app hx.row (by omega)
  exact ⟨_, _, callE_of (x := .ret) (e := [(2, [.sc (.sl h.length 0 l.length l.length)])]) (h' := h ++ [⟨.row 5 1, Go.Abs.bytes l⟩]) rfl (by rfl : F 22 = some M.a22) (by
    simp [M.a22, nilckA, fldA, loadA, f1, hi1, a1]) (.inr rfl) rfl, (copy_fresh h l).trim⟩

/-- the four bytes of a number, the lowest first -/
def le4 (s : Nat) : List UInt8 := [UInt8.ofNat s, UInt8.ofNat (s / 256), UInt8.ofNat (s / 65536), UInt8.ofNat (s / 16777216)]
def sealB (l : List UInt8) : List UInt8 := l ++ le4 (sumB l)
theorem sealB_length (l : List UInt8) : (sealB l).length = l.length + 4 := by simp [sealB, le4]

theorem le_b0 (s : Nat) : IntKind.u8.wrap (s : Int) = ((UInt8.ofNat s).toNat : Int) := by rw [wu8', UInt8.toNat_ofNat']; omega
theorem le_b1 (s : Nat) : IntKind.u8.wrap ((s : Int).fdiv 256) = ((UInt8.ofNat (s / 256)).toNat : Int) := by rw [wu8', UInt8.toNat_ofNat', Int.fdiv_eq_ediv_of_nonneg _ (by omega)]; omega
theorem le_b2 (s : Nat) : IntKind.u8.wrap ((s : Int).fdiv 65536) = ((UInt8.ofNat (s / 65536)).toNat : Int) := by rw [wu8', UInt8.toNat_ofNat', Int.fdiv_eq_ediv_of_nonneg _ (by omega)]; omega
theorem le_b3 (s : Nat) : IntKind.u8.wrap ((s : Int).fdiv 16777216) = ((UInt8.ofNat (s / 16777216)).toNat : Int) := by rw [wu8', UInt8.toNat_ofNat', Int.fdiv_eq_ediv_of_nonneg _ (by omega)]; omega

theorem own_app4 {h : Heap} {x : SV} {l : List UInt8} (hx : Own h x 5 1 l.length (Go.Abs.bytes l)) (a b c d : UInt8) (hl : l.length + 4 ≤ lim) :
    appA h 5 1 1 (.sc x) (.imm 4 [.int .u8 a.toNat, .int .u8 b.toNat, .int .u8 c.toNat, .int .u8 d.toNat]) = some ([.sc (appV h x 1 4)], appH h x 5 1 4 [.int .u8 a.toNat, .int .u8 b.toNat, .int .u8 c.toNat, .int .u8 d.toNat]) ∧
    OStep h x l (appH h x 5 1 4 [.int .u8 a.toNat, .int .u8 b.toNat, .int .u8 c.toNat, .int .u8 d.toNat]) (appV h x 1 4) [a, b, c, d] :=
  own_app hx (y := .imm 4 [.int .u8 a.toNat, .int .u8 b.toNat, .int .u8 c.toNat, .int .u8 d.toNat]) (m := [a, b, c, d]) rfl (by simpa using hl)

theorem spec25 {h : Heap} {y : SV} {l : List UInt8} (hy : Row h y 1 l.length (Go.Abs.bytes l)) (hl : l.length ≤ 140737488353280) : ∃ h' z, call 25 [[.sc y]] h = some ([.sc z], h') ∧ Fresh h h' z (sealB l) := by
  have s1 := spec26 hy hl
  have a1 := copy_app hy (by omega)
  obtain ⟨a2, st⟩ := own_app4 (copy_fresh h l).own (UInt8.ofNat (sumB l)) (UInt8.ofNat (sumB l / 256)) (UInt8.ofNat (sumB l / 65536)) (UInt8.ofNat (sumB l / 16777216)) (by simp [lim]; omega)
  have fr : Fresh h _ _ (sealB l) := (copy_fresh h l).app st
  have b0 := le_b0 (sumB l)
  have b1 := le_b1 (sumB l)
  have b2 := le_b2 (sumB l)
  have b3 := le_b3 (sumB l)
  generalize UInt8.ofNat (sumB l) = c0 at *
  generalize UInt8.ofNat (sumB l / 256) = c1 at *
  generalize UInt8.ofNat (sumB l / 65536) = c2 at *
  generalize UInt8.ofNat (sumB l / 16777216) = c3 at *
  generalize h0 : appV (h ++ [⟨.row 5 1, Go.Abs.bytes l⟩]) (.sl h.length 0 l.length l.length) 1 4 = z at *
  generalize h1 : appH (h ++ [⟨.row 5 1, Go.Abs.bytes l⟩]) (.sl h.length 0 l.length l.length) 5 1 4 [.int .u8 c0.toNat, .int .u8 c1.toNat, .int .u8 c2.toNat, .int .u8 c3.toNat] = hh at *
  refine ⟨_, z, callE_of (x := .ret) (e := [(2, [.sc z])]) (h' := hh) rfl (by rfl : F 25 = some M.a25) (by
    simp [M.a25, s1, a1, shAmt, IntKind.bits, b0, b1, b2, b3, a2]) (.inr rfl) rfl, fr.trim⟩

theorem spec28 {h : Heap} {y : SV} {l : List UInt8} (hy : Row h y 1 l.length (Go.Abs.bytes l)) (hl : l.length ≤ 140737488353280) : ∃ h' z, call 28 [[.sc y]] h = some ([.sc z], h') ∧ Fresh h h' z (sealB l) := by
  have s1 := spec27 hy hl
  have a1 := copy_app hy (by omega)
  obtain ⟨a2, st⟩ := own_app4 (copy_fresh h l).own (UInt8.ofNat (sumB l)) (UInt8.ofNat (sumB l / 256)) (UInt8.ofNat (sumB l / 65536)) (UInt8.ofNat (sumB l / 16777216)) (by simp [lim]; omega)
  have fr : Fresh h _ _ (sealB l) := (copy_fresh h l).app st
  have b0 := le_b0 (sumB l)
  have b1 := le_b1 (sumB l)
  have b2 := le_b2 (sumB l)
  have b3 := le_b3 (sumB l)
  generalize UInt8.ofNat (sumB l) = c0 at *
  generalize UInt8.ofNat (sumB l / 256) = c1 at *
  generalize UInt8.ofNat (sumB l / 65536) = c2 at *
  generalize UInt8.ofNat (sumB l / 16777216) = c3 at *
  generalize h0 : appV (h ++ [⟨.row 5 1, Go.Abs.bytes l⟩]) (.sl h.length 0 l.length l.length) 1 4 = z at *
  generalize h1 : appH (h ++ [⟨.row 5 1, Go.Abs.bytes l⟩]) (.sl h.length 0 l.length l.length) 5 1 4 [.int .u8 c0.toNat, .int .u8 c1.toNat, .int .u8 c2.toNat, .int .u8 c3.toNat] = hh at *
  exact ⟨_, z, callE_of (x := .ret) (e := [(2, [.sc z])]) (h' := hh) rfl (by rfl : F 28 = some M.a28) (by
    simp [M.a28, s1, a1, shAmt, IntKind.bits, b0, b1, b2, b3, a2]) (.inr rfl) rfl, fr.trim⟩

/-- what comes of bytes that are unsealed: the error, the bytes -/
def unE (l : List UInt8) : Nat := if l.length < 4 then 10 else if l.drop (l.length - 4) = le4 (sumB (l.take (l.length - 4))) then 0 else 13
def unB (l : List UInt8) : List UInt8 := if unE l = 0 then l.take (l.length - 4) else []

theorem un_loop {y z : SV} {l p : List UInt8} {n : Nat} {h : Heap} (hy : Row h y 1 l.length (Go.Abs.bytes l)) (hz : Row h z 1 p.length (Go.Abs.bytes p)) (hp : p.length = l.length) (hl : l.length ≤ 140737488353280) : ∀ (t t' : List UInt8) (i : Nat) (e : Env), l.drop i = t → p.drop i = t' → i ≤ l.length →
    e.get 0 = [.sc y] → e.get 4 = [.sc (.int .i64 n)] → e.get 5 = [.sc z] → e.get 6 = [.sc (.int .i64 i)] →
    loopE F O (.loop [0, 4, 5, 6] M.b23_0) e h = some (if t' = t then (.exit 0, [(0, [.sc y]), (4, [.sc (.int .i64 n)]), (5, [.sc z]), (6, [.sc (.int .i64 l.length)]), (21, [.sc (.bool false)])], h) else (.ret, [(2, [.sc .nils]), (3, [.sc (.int .i64 13)])], h))
  | [], t', i, e, ht, ht', hi, e0, e4, e5, e6 => by
    have : i = l.length := by have := congrArg List.length ht; simp at this; omega
    subst this
    have : t' = [] := by rw [← ht', List.drop_of_length_le (by omega)]
    subst this
    have ln := lenA_row hy
    exact loop_exit (by simp [M.b23_0, e0, e4, e5, e6, ln])
  | x :: t, [], i, e, ht, ht', hi, e0, e4, e5, e6 => by
    have h1 := congrArg List.length ht
    have h2 := congrArg List.length ht'
    simp at h1 h2
    omega
  | x :: t, x' :: t', i, e, ht, ht', hi, e0, e4, e5, e6 => by
    have hlt : i < l.length := by have := congrArg List.length ht; simp at this; omega
    have hx : l[i]? = some x := by have := congrArg (fun z => z[0]?) ht; simpa using this
    have hx' : p[i]? = some x' := by have := congrArg (fun z => z[0]?) ht'; simpa using this
    have hd : l.drop (i + 1) = t := by rw [← List.drop_drop, ht]; rfl
    have hd' : p.drop (i + 1) = t' := by rw [← List.drop_drop, ht']; rfl
    have ln := lenA_row hy
    have h1 : (i : Int) < l.length := by omega
    have w1 : IntKind.i64.wrap ((i : Int) + 1) = i + 1 := wi64 (by omega) (by omega)
    have g1 := ixsA_row hy hlt
    have g2 := loadA_row hy hlt (ag := false) (k := 1) (by omega) (v := .int .u8 x.toNat) (by rw [Nat.mul_one, bytes_get, hx]; rfl) (by omega)
    have g3 := ixsA_row hz (j := i) (by omega)
    have g4 := loadA_row hz (j := i) (by omega) (ag := false) (k := 1) (by omega) (v := .int .u8 x'.toNat) (by rw [Nat.mul_one, bytes_get, hx']; rfl) (by omega)
    by_cases he : x' = x
    · subst he
      have ih := un_loop (n := n) hy hz hp hl t t' (i + 1) [(0, [.sc y]), (4, [.sc (.int .i64 n)]), (5, [.sc z]), (6, [.sc (.int .i64 ((i + 1 : Nat) : Int))])] hd hd' hlt rfl rfl rfl rfl
      simp only [List.cons.injEq, true_and]
      refine loop_step ?_ ih
      simp [M.b23_0, e0, e4, e5, e6, ln, h1, g1, g2, g3, g4, w1]
    · have hne : ¬ (x'.toNat : Int) = x.toNat := fun h => he (UInt8.toNat_inj.1 (by omega))
      have hne' : ¬ x' :: t' = x :: t := by simp [he]
      rw [if_neg hne']
      exact loop_ret (by
        simp [M.b23_0, e0, e4, e5, e6, ln, h1, g1, g2, g3, g4, hne])

theorem unE_lt (l : List UInt8) : unE l = 10 ∧ l.length < 4 ∨ unE l = 13 ∨ unE l = 0 ∧ 4 ≤ l.length := by
  unfold unE
  split
  · exact .inl ⟨rfl, by omega⟩
  · split
    · exact .inr (.inr ⟨rfl, by omega⟩)
    · exact .inr (.inl rfl)

theorem cut_front {h : Heap} {y : SV} {l : List UInt8} (hy : Row h y 1 l.length (Go.Abs.bytes l)) {n : Nat} (hn : n ≤ l.length) : Row h (cutS y 1 0 n) 1 (l.take n).length (Go.Abs.bytes (l.take n)) := by
  have := cut_row hy (l := 0) (r := n) (by omega) hn
  simpa [bytes_take, Nat.min_eq_left hn] using this

theorem slc_front {h : Heap} {y : SV} {l : List UInt8} (hy : Row h y 1 l.length (Go.Abs.bytes l)) {n : Nat} (hn : n ≤ l.length) {lo hi : Nat → Option Nat} (hlo : lo 0 = some 0) (hhi : hi l.length = some n) : slcA h 1 [.sc y] lo hi = some ([.sc (cutS y 1 0 n)], h) :=
  slcA_row hy hlo hhi (by omega) hn

theorem spec23 {h : Heap} {y : SV} {l : List UInt8} (hy : Row h y 1 l.length (Go.Abs.bytes l)) (hl : l.length ≤ 140737488353280) : ∃ h' z, call 23 [[.sc y]] h = some ([.sc z, .sc (.int .i64 (unE l))], h') ∧ Fresh h h' z (unB l) := by
  have ln := lenA_row hy
  by_cases h4 : l.length < 4
  · have hE : unE l = 10 := by unfold unE; rw [if_pos h4]
    have hB : unB l = [] := by unfold unB; rw [hE]; rfl
    rw [hE, hB]
    have c1 : (l.length : Int) < 4 := by omega
    refine ⟨h, .nils, ?_, Fresh.nils (Mod.refl _ _)⟩
    have := callE_of (F := F) (O := O) (f := 23) (args := [[.sc y]]) (h := h) (x := .ret) (e := [(2, [.sc .nils]), (3, [.sc (.int .i64 10)])]) (h' := h) rfl (by rfl : F 23 = some M.a23) (by
      simp [M.a23, ln, c1]) (.inr rfl) rfl
    exact this.trans (by rw [trim_self]; rfl)
  · obtain ⟨n, hn⟩ : ∃ n, n = l.length - 4 := ⟨_, rfl⟩
    have hnl : n ≤ l.length := by omega
    have c1 : ¬ (l.length : Int) < 4 := by omega
    have w1 : IntKind.i64.wrap ((l.length : Int) - 4) = n := by rw [wi64 (by omega) (by omega)]; omega
    have cf := cut_front hy hnl
    have htl : (l.take n).length = n := by simp; omega
    obtain ⟨h1, z, e1, fr⟩ := spec25 cf (by omega)
    have sl : ∀ {lo hi : Nat → Option Nat}, lo 0 = some 0 → hi l.length = some n → slcA h 1 [.sc y] lo hi = some ([.sc (cutS y 1 0 n)], h) := fun a b => slc_front hy hnl a b
    have lo := loop_run (un_loop (n := n) (fr.keep hy) fr.row (by rw [sealB_length, htl]; omega) hl (l.drop n) ((sealB (l.take n)).drop n) n [(0, [.sc y]), (4, [.sc (.int .i64 n)]), (5, [.sc z]), (6, [.sc (.int .i64 n)])] rfl rfl hnl rfl rfl rfl rfl)
    have hdr : (sealB (l.take n)).drop n = le4 (sumB (l.take n)) := by
      unfold sealB
      rw [List.drop_append_of_le_length (by omega), List.drop_of_length_le (by omega), List.nil_append]
    rw [hdr] at lo
    by_cases heq : l.drop n = le4 (sumB (l.take n))
    · have hE : unE l = 0 := by unfold unE; rw [if_neg h4, ← hn, if_pos heq]
      have hB : unB l = l.take n := by unfold unB; rw [hE, ← hn]; rfl
      rw [hE, hB]
      rw [if_pos heq.symm] at lo
      have sl1 : ∀ {lo hi : Nat → Option Nat}, lo 0 = some 0 → hi l.length = some n → slcA (h1 ++ [⟨.row 5 1, []⟩]) 1 [.sc y] lo hi = some ([.sc (cutS y 1 0 n)], h1 ++ [⟨.row 5 1, []⟩]) := fun a b =>
        slc_front ((fr.keep hy).mod (Mod.app (fun _ => False) _ _) fun _ _ h => h) hnl a b
      have a1 := copy_app (cut_front (fr.keep hy) hnl) (by omega)
      have cp := copy_fresh h1 (l.take n)
      rw [htl] at a1 cp
      refine ⟨_, _, callE_of (x := .ret) (e := [(2, [.sc (.sl h1.length 0 n n)]), (3, [.sc (.int .i64 0)])]) (h' := h1 ++ [⟨.row 5 1, Go.Abs.bytes (l.take n)⟩]) rfl (by rfl : F 23 = some M.a23) (by
        simp [M.a23, ln, c1, w1, sl, sl1, e1, lo, a1]) (.inr rfl) rfl, ?_⟩
      have := cp.after fr.mod
      unfold Go.Abs.trim
      simpa [pureT, pureV, pureS] using this
    · have hE : unE l = 13 := by unfold unE; rw [if_neg h4, ← hn, if_neg heq]
      have hB : unB l = [] := by unfold unB; rw [hE]; rfl
      rw [hE, hB]
      rw [if_neg (fun h => heq h.symm)] at lo
      refine ⟨h, .nils, ?_, Fresh.nils (Mod.refl _ _)⟩
      have := callE_of (F := F) (O := O) (f := 23) (args := [[.sc y]]) (h := h) (x := .ret) (e := [(2, [.sc .nils]), (3, [.sc (.int .i64 13)])]) (h' := h1) rfl (by rfl : F 23 = some M.a23) (by
        simp [M.a23, ln, c1, w1, sl, e1, lo]) (.inr rfl) rfl
      exact this.trans (by rw [trim_mod rfl fr.mod fun _ _ h => h]; rfl)
end Go.Proofs.Ytokdnndocipilaa
