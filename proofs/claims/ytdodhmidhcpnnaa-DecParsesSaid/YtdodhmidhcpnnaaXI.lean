/- The abstract machine, part 17: what comes in: arguments as blocks that are only read. -/
import Derived.Test.YtdodhmidhcpnnaaXH
import Derived.ChangeArms
set_option linter.unusedVariables false
set_option linter.unusedSimpArgs false
namespace Go.Abs
open Go.ChangeShapes Go.WideShapes Go.RowKit

/-- fields that stand one behind the other, up to n -/
def tiles (P : Program) (ok : TypeId → Bool) : Nat → List Field → Nat → Bool
  | acc, [], n => Nat.beq acc n
  | acc, f :: r, n => Nat.beq f.offset acc && ok f.type && tiles P ok (acc + P.cellsOf f.type) r n

/-- a type of bools, numbers, texts, structs and slices of such -/
def plain (P : Program) : Nat → TypeId → Bool
  | 0, _ => false
  | k + 1, t => match P.underlying t with
    | some .bool => true
    | some (.int _) => true
    | some .string => true
    | some (.slice e) => decide (0 < P.cellsOf e) && plain P k e
    | some (.struct fs) => tiles P (plain P k) 0 fs.toList (P.cellsOf t)
    | _ => false

def View {H : Type} (P : Program) (h : Heap) : Nat → TypeId → List SV → DataW H → Prop
  | 0, _, _, _ => False
  | k + 1, t, xs, d => match P.underlying t with
    | some .bool => ∃ b, xs = [.bool b] ∧ d = .lit (.bool b)
    | some (.int q) => ∃ n, xs = [.int q n] ∧ (Lit.int q n).wf = true ∧ d = .lit (.int q n)
    | some .string => ∃ l, xs = [.str l] ∧ l.length ≤ maxLen ∧ d = .lit (.string l)
    | some (.slice e) => (xs = [.nils] ∧ d = .nil) ∨ ∃ b n cs els rest, xs = [.sl b 0 n (n * P.cellsOf e)] ∧ h[b]? = some ⟨.ro, cs⟩ ∧ cs.length = n * P.cellsOf e ∧ els.length = n ∧ n ≤ maxLen ∧ d = .slice els rest ∧
        ∀ (i : Nat) x, els[i]? = some x → View P h k e ((cs.drop (i * P.cellsOf e)).take (P.cellsOf e)) x
    | some (.struct fs) => ∃ parts, d = .agg parts ∧ xs.length = P.cellsOf t ∧ parts.length = fs.size ∧ ∀ (i : Nat) f x, fs[i]? = some f → parts[i]? = some x → View P h k f.type ((xs.drop f.offset).take (P.cellsOf f.type)) x
    | _ => False

def AllRo (h : Heap) : Prop := ∀ (j : Nat) (B : Blk), h[j]? = some B → B.k = .ro

section
variable {H : Type} {enc : TypeId × Value → H} {P : Program} {w : World} {base : Nat} {σ : Nat → Addr} {h : Heap}

theorem View.grow (t' : Heap) : ∀ {k : Nat} {t : TypeId} {xs : List SV} {d : DataW H}, View P h k t xs d → View P (h ++ t') k t xs d := by
  intro k
  induction k with
  | zero => intro t xs d hv; exact hv
  | succ k ih =>
    intro t xs d hv
    unfold View at hv ⊢
    split at hv
    · exact hv
    · exact hv
    · exact hv
    · rcases hv with hv | ⟨b, n, cs, els, rest, h1, h2, h3, h4, h5, h6, h7⟩
      · exact .inl hv
      · exact .inr ⟨b, n, cs, els, rest, h1, by rw [List.getElem?_append_left (lt_of_get h2)]; exact h2, h3, h4, h5, h6, fun i x hx => ih (h7 i x hx)⟩
    · obtain ⟨parts, h1, h2, h3, h4⟩ := hv
      exact ⟨parts, h1, h2, h3, fun i f x hf hx => ih (h4 i f x hf hx)⟩
    · exact hv

theorem View.bool {k : Nat} {t : TypeId} {xs : List SV} {d : DataW H} (ht : P.underlying t = some .bool) (hv : View P h (k + 1) t xs d) : ∃ b, xs = [.bool b] ∧ d = .lit (.bool b) := by
  unfold View at hv; rw [ht] at hv; exact hv
theorem View.int {k : Nat} {t : TypeId} {q : IntKind} {xs : List SV} {d : DataW H} (ht : P.underlying t = some (.int q)) (hv : View P h (k + 1) t xs d) : ∃ n, xs = [.int q n] ∧ (Lit.int q n).wf = true ∧ d = .lit (.int q n) := by
  unfold View at hv; rw [ht] at hv; exact hv
theorem View.string {k : Nat} {t : TypeId} {xs : List SV} {d : DataW H} (ht : P.underlying t = some .string) (hv : View P h (k + 1) t xs d) : ∃ l, xs = [.str l] ∧ l.length ≤ maxLen ∧ d = .lit (.string l) := by
  unfold View at hv; rw [ht] at hv; exact hv
theorem View.slice {k : Nat} {t e : TypeId} {sz : Nat} {xs : List SV} {d : DataW H} (ht : P.underlying t = some (.slice e)) (hs : P.cellsOf e = sz) (hv : View P h (k + 1) t xs d) :
    (xs = [.nils] ∧ d = .nil) ∨ ∃ b n cs els rest, xs = [.sl b 0 n (n * sz)] ∧ h[b]? = some ⟨.ro, cs⟩ ∧ cs.length = n * sz ∧ els.length = n ∧ n ≤ maxLen ∧ d = .slice els rest ∧
        ∀ (i : Nat) x, els[i]? = some x → View P h k e ((cs.drop (i * sz)).take sz) x := by
  subst hs; unfold View at hv; rw [ht] at hv; exact hv
theorem View.struct {k : Nat} {t : TypeId} {fs : Array Field} {xs : List SV} {d : DataW H} (ht : P.underlying t = some (.struct fs)) (hv : View P h (k + 1) t xs d) :
    ∃ parts, d = .agg parts ∧ xs.length = P.cellsOf t ∧ parts.length = fs.size ∧ ∀ (i : Nat) f x, fs[i]? = some f → parts[i]? = some x → View P h k f.type ((xs.drop f.offset).take (P.cellsOf f.type)) x := by
  unfold View at hv; rw [ht] at hv; exact hv

/-- a new block that is only read -/
theorem HR.addRo (H0 : HR base σ h w) (hr : AllRo h) (cs : List SV) (a : Addr) (hb : 0 < cs.length → a.block < base) (hc : ∀ (i : Nat) x, cs[i]? = some x → ∃ v, w.cell? (a.add i) = some v ∧ SVR σ h w x v) :
    HR base (upd σ h.length a) (h ++ [⟨.ro, cs⟩]) w ∧ Ext σ h w (upd σ h.length a) (h ++ [⟨.ro, cs⟩]) w ∧ AllRo (h ++ [⟨.ro, cs⟩]) := by
  have ro : AllRo (h ++ [⟨.ro, cs⟩]) := fun j B hB => by
    rcases getElem?_snoc_lt hB with h1 | ⟨_, rfl⟩
    · exact hr j B h1
    · rfl
  have E : Ext σ h w (upd σ h.length a) (h ++ [⟨.ro, cs⟩]) w := ⟨rfl, rfl, rfl, Nat.le_refl _, fun _ _ _ => rfl, fun _ _ => rfl,
    fun j B hB => ⟨B, by rw [List.getElem?_append_left (lt_of_get hB)]; exact hB, rfl, Nat.le_refl _, fun _ => upd_other _ _ (by have := lt_of_get hB; omega)⟩,
    fun c ⟨j, B, hB, hk, _⟩ => absurd (ro j B hB) hk⟩
  refine ⟨⟨H0.size, fun j C hC => ?_, fun i j B C hB hC hk => absurd (ro i B hB) hk⟩, E, ro⟩
  rcases getElem?_snoc_lt hC with h1 | ⟨rfl, rfl⟩
  · exact (H0.blk j C h1).keep H0 E (fun _ => rfl) (upd_other _ _ (by have := lt_of_get h1; omega))
  · unfold BlkR
    simp only [upd_same]
    exact ⟨hb, fun i x hx => by obtain ⟨v, h1, h2⟩ := hc i x hx; exact ⟨v, h1, SVR.ext H0 E h2⟩⟩

theorem Ext.ro_trans {σ1 σ2 : Nat → Addr} {t1 t2 : Heap} (a : Ext σ h w σ1 (h ++ t1) w) (b : Ext σ1 (h ++ t1) w σ2 (h ++ t1 ++ t2) w) : Ext σ h w σ2 (h ++ (t1 ++ t2)) w := by
  rw [← List.append_assoc]; exact a.trans b

def Fits (enc : TypeId × Value → H) (P : Program) (w : World) (t : TypeId) (cs : List Value) (d : DataW H) : Prop := ∃ fuel ps, DataW.trod enc P w 0 (fun _ => true) true fuel t cs = some (d, ps)

def Takes (enc : TypeId × Value → H) (P : Program) (w : World) (base k : Nat) : Prop := ∀ t cs d, plain P k t = true → Fits enc P w t cs d → ∀ h σ, HR base σ h w → AllRo h →
  ∃ t' σ' xs, HR base σ' (h ++ t') w ∧ AllRo (h ++ t') ∧ Ext σ h w σ' (h ++ t') w ∧ All2 (SVR σ' (h ++ t') w) xs cs ∧ View P (h ++ t') k t xs d

theorem takes_many {k : Nat} (IH : Takes enc P w base k) : ∀ (l : List (TypeId × List Value × DataW H)), (∀ p ∈ l, plain P k p.1 = true ∧ Fits enc P w p.1 p.2.1 p.2.2) → ∀ h σ, HR base σ h w → AllRo h →
    ∃ t' σ' xss, HR base σ' (h ++ t') w ∧ AllRo (h ++ t') ∧ Ext σ h w σ' (h ++ t') w ∧ All2 (fun xs p => All2 (SVR σ' (h ++ t') w) xs p.2.1 ∧ View P (h ++ t') k p.1 xs p.2.2) xss l
  | [], _, h, σ, H0, hr => ⟨[], σ, [], by simpa using H0, by simpa using hr, by simpa using Ext.refl σ h w, trivial⟩
  | p :: l, hl, h, σ, H0, hr => by
    obtain ⟨hp, hf⟩ := hl p (by simp)
    obtain ⟨t1, σ1, xs, H1, r1, E1, a1, v1⟩ := IH p.1 p.2.1 p.2.2 hp hf h σ H0 hr
    obtain ⟨t2, σ2, xss, H2, r2, E2, a2⟩ := takes_many IH l (fun q hq => hl q (List.mem_cons_of_mem _ hq)) (h ++ t1) σ1 H1 r1
    refine ⟨t1 ++ t2, σ2, xs :: xss, by rw [← List.append_assoc]; exact H2, by rw [← List.append_assoc]; exact r2, E1.ro_trans E2, ?_⟩
    rw [← List.append_assoc]
    exact ⟨⟨forall2_imp (fun _ _ => SVR.ext H1 E2) a1, v1.grow t2⟩, a2⟩

theorem flat_len {α : Type} {sz : Nat} : ∀ {xss : List (List α)}, (∀ xs ∈ xss, xs.length = sz) → xss.flatten.length = xss.length * sz
  | [], _ => by simp
  | xs :: xss, hl => by
    rw [List.flatten_cons, List.length_append, hl xs (by simp), flat_len (fun x hx => hl x (List.mem_cons_of_mem _ hx)), List.length_cons, Nat.add_mul, Nat.one_mul, Nat.add_comm]

theorem flat_cut {α : Type} {sz : Nat} : ∀ {xss : List (List α)}, (∀ xs ∈ xss, xs.length = sz) → ∀ {i : Nat} {xs : List α}, xss[i]? = some xs → (xss.flatten.drop (i * sz)).take sz = xs
  | [], _, i, xs, h => by simp at h
  | y :: xss, hl, 0, xs, h => by
    simp at h
    subst h
    have := hl y (by simp)
    rw [Nat.zero_mul, List.drop_zero, List.flatten_cons, ← this, List.take_left]
  | y :: xss, hl, i + 1, xs, h => by
    have hy := hl y (by simp)
    have := flat_cut (fun x hx => hl x (List.mem_cons_of_mem _ hx)) (i := i) (xs := xs) (by simpa using h)
    rw [List.flatten_cons, Nat.add_mul, Nat.one_mul, Nat.add_comm (i * sz), ← List.drop_drop, ← hy, List.drop_left, hy]
    exact this

theorem cell_lt {a : Addr} {v : Value} (hc : w.cell? a = some v) : a.block < w.heap.size := by
  unfold World.cell? at hc
  split at hc
  · rename_i hh; exact (Array.getElem?_eq_some_iff.1 hh).1
  · simp at hc
theorem add_zero (a : Addr) : a.add 0 = a := by unfold Addr.add; simp

theorem takes_slice {k : Nat} (IH : Takes enc P w w.heap.size k) {t e : TypeId} {cs : List Value} {d : DataW H} (ht : P.underlying t = some (.slice e)) (hsz : 0 < P.cellsOf e) (hpl : plain P k e = true)
    (hf : Fits enc P w t cs d) (h : Heap) (σ : Nat → Addr) (H0 : HR w.heap.size σ h w) (hr : AllRo h) :
    ∃ t' σ' xs, HR w.heap.size σ' (h ++ t') w ∧ AllRo (h ++ t') ∧ Ext σ h w σ' (h ++ t') w ∧ All2 (SVR σ' (h ++ t') w) xs cs ∧ View P (h ++ t') (k + 1) t xs d := by
  obtain ⟨fuel, ps, hd⟩ := hf
  rcases DataW.trod_slice ht hd with ⟨rfl, hx⟩ | ⟨a, len, cap, elems, rest, n, _, rfl, hx, _, hlc, hcm, hlen, hel, _⟩
  · injection hx with hx _
    refine ⟨[], σ, [.nils], by simpa using H0, by simpa using hr, by simpa using Ext.refl σ h w, ⟨rfl, trivial⟩, ?_⟩
    unfold View
    rw [ht]
    exact .inl ⟨rfl, hx⟩
  · injection hx with hx _
    generalize hsz' : P.cellsOf e = sz at hsz hel
    have cells : ∀ i, i < len → ∃ ci x, w.cells? 0 (a.add (i * sz)) sz = some ci ∧ DataW.trod enc P w 0 (fun _ => true) true n e ci = some x ∧ elems[i]? = some x := fun i hi => by
      have h1 := hel i hi
      have h2 : elems[i]? = some (elems[i]'(by omega)) := List.getElem?_eq_getElem (by omega)
      rw [h2] at h1
      obtain ⟨ci, h3, h4⟩ := Option.bind_eq_some_iff.1 h1
      exact ⟨ci, _, h3, h4, h2⟩
    obtain ⟨t1, σ1, xss, H1, r1, E1, a1⟩ := takes_many IH ((List.range len).map fun i => (e, (w.cells? 0 (a.add (i * sz)) sz).getD [], (elems[i]?.map (·.1)).getD .nil))
      (fun p hp => by
        obtain ⟨i, hi, rfl⟩ := List.mem_map.1 hp
        obtain ⟨ci, x, h1, h2, h3⟩ := cells i (List.mem_range.1 hi)
        simp only [h1, h3, Option.getD_some, Option.map_some]
        exact ⟨hpl, n, x.2, h2⟩) h σ H0 hr
    have hxl : xss.length = len := by rw [a1.length]; simp
    have each : ∀ i xs, xss[i]? = some xs → ∃ ci x, w.cells? 0 (a.add (i * sz)) sz = some ci ∧ elems[i]? = some x ∧ All2 (SVR σ1 (h ++ t1) w) xs ci ∧ View P (h ++ t1) k e xs x.1 := fun i xs hxs => by
      have hi : i < len := by have := lt_of_get hxs; omega
      obtain ⟨p, hp, h1, h2⟩ := a1.get i xs hxs
      obtain ⟨ci, x, g1, g2, g3⟩ := cells i hi
      rw [List.getElem?_map, List.getElem?_range hi] at hp
      simp only [Option.map_some, Option.some.injEq, g1, g3, Option.getD_some] at hp
      subst hp
      exact ⟨ci, x, g1, g3, h1, h2⟩
    have hlenx : ∀ xs ∈ xss, xs.length = sz := fun xs hxs => by
      obtain ⟨i, hi⟩ := List.getElem?_of_mem hxs
      obtain ⟨ci, x, g1, g2, g3, g4⟩ := each i xs hi
      rw [g3.length, (World.cells?_some g1).2.1]
    have hfl := flat_len hlenx
    have hcell : ∀ (m : Nat) x, xss.flatten[m]? = some x → ∃ v, w.cell? (a.add m) = some v ∧ SVR σ1 (h ++ t1) w x v := fun m x hm => by
      have hlt := lt_of_get hm
      rw [hfl] at hlt
      have hq : m / sz < xss.length := (Nat.div_lt_iff_lt_mul hsz).2 hlt
      have hrm : m % sz < sz := Nat.mod_lt _ hsz
      have hxs := List.getElem?_eq_getElem hq
      obtain ⟨ci, y, g1, g2, g3, g4⟩ := each _ _ hxs
      have hc := flat_cut hlenx hxs
      have e1 : m / sz * sz + m % sz = m := by rw [Nat.mul_comm]; exact Nat.div_add_mod m sz
      have hx' : xss[m / sz][m % sz]? = some x := by
        rw [← hc, List.getElem?_take, if_pos hrm, List.getElem?_drop, e1]; exact hm
      obtain ⟨v, hv, hs⟩ := g3.get _ _ hx'
      refine ⟨v, ?_, hs⟩
      have := (World.cells?_some g1).2.2 (m % sz) hrm
      rw [hv, Addr.add_add, e1] at this
      exact this
    obtain ⟨H2, E2, r2⟩ := H1.addRo r1 xss.flatten a (fun hpos => by
      obtain ⟨v, hv, _⟩ := hcell 0 _ (List.getElem?_eq_getElem hpos)
      rw [add_zero] at hv
      exact cell_lt hv) hcell
    refine ⟨t1 ++ [⟨.ro, xss.flatten⟩], upd σ1 (h ++ t1).length a, [.sl (h ++ t1).length 0 len (len * sz)], by rw [← List.append_assoc]; exact H2, by rw [← List.append_assoc]; exact r2, E1.ro_trans E2, ⟨?_, trivial⟩, ?_⟩
    · rw [← List.append_assoc]
      refine ⟨⟨.ro, xss.flatten⟩, by simp, by simp [hfl, hxl], rfl, fun _ => ⟨a, cap, rfl, hlc, .inl (by rw [upd_same, add_zero]), trivial⟩⟩
    · rw [← List.append_assoc]
      unfold View
      rw [ht]
      refine .inr ⟨(h ++ t1).length, len, xss.flatten, elems.map (·.1), rest.map (·.1), by rw [hsz'], by simp, by rw [hfl, hxl, hsz'], by simp [hlen], by omega, hx, fun i x hi => ?_⟩
      rw [List.getElem?_map] at hi
      obtain ⟨y, hy, rfl⟩ := Option.map_eq_some_iff.1 hi
      have hil : i < xss.length := by have := lt_of_get hy; omega
      have hxs := List.getElem?_eq_getElem hil
      obtain ⟨ci, y', g1, g2, g3, g4⟩ := each _ _ hxs
      rw [hy] at g2
      injection g2 with g2
      subst g2
      rw [hsz', flat_cut hlenx hxs]
      exact g4.grow _

theorem tiles_le {ok : TypeId → Bool} {n : Nat} : ∀ {fs : List Field} {acc : Nat}, tiles P ok acc fs n = true → acc ≤ n
  | [], acc, h => by simp only [tiles] at h; have := Nat.eq_of_beq_eq_true h; omega
  | f :: r, acc, h => by
    simp only [tiles, Bool.and_eq_true] at h
    have := tiles_le h.2
    omega

theorem tiles_flat {ok : TypeId → Bool} {cs : List Value} {R : SV → Value → Prop} : ∀ {fs : List Field} {acc : Nat} {xss : List (List SV)}, tiles P ok acc fs cs.length = true →
    All2 (fun xs f => All2 R xs ((cs.drop f.offset).take (P.cellsOf f.type))) xss fs → All2 R xss.flatten (cs.drop acc)
  | [], acc, [], h, _ => by
    simp only [tiles] at h
    have := Nat.eq_of_beq_eq_true h
    rw [List.drop_of_length_le (by omega)]
    trivial
  | f :: r, acc, xs :: xss, h, ha => by
    simp only [tiles, Bool.and_eq_true] at h
    have h0 := Nat.eq_of_beq_eq_true h.1.1
    have h2 := tiles_flat h.2 ha.2
    have h1 : All2 R xs ((cs.drop f.offset).take (P.cellsOf f.type)) := ha.1
    rw [h0] at h1
    have := h1.append h2
    rw [← List.drop_drop, List.take_append_drop] at this
    exact this
  | [], _, _ :: _, _, ha => ha.elim
  | _ :: _, _, [], _, ha => ha.elim

theorem tiles_cut {ok : TypeId → Bool} {n : Nat} : ∀ {fs : List Field} {acc : Nat} {xss : List (List SV)}, tiles P ok acc fs n = true → All2 (fun xs f => xs.length = P.cellsOf f.type) xss fs →
    ∀ {i : Nat} {f : Field} {xs : List SV}, fs[i]? = some f → xss[i]? = some xs → acc ≤ f.offset ∧ (xss.flatten.drop (f.offset - acc)).take (P.cellsOf f.type) = xs
  | [], _, _, _, _, i, f, xs, hf, _ => by simp at hf
  | g :: r, acc, [], _, ha, _, _, _, _, _ => ha.elim
  | g :: r, acc, y :: xss, h, ha, 0, f, xs, hf, hxs => by
    simp only [tiles, Bool.and_eq_true] at h
    have h0 := Nat.eq_of_beq_eq_true h.1.1
    simp at hf hxs
    subst hf hxs
    refine ⟨by omega, ?_⟩
    rw [h0, Nat.sub_self, List.drop_zero, List.flatten_cons, ← ha.1, List.take_left]
  | g :: r, acc, y :: xss, h, ha, i + 1, f, xs, hf, hxs => by
    simp only [tiles, Bool.and_eq_true] at h
    obtain ⟨h1, h2⟩ := tiles_cut h.2 ha.2 (i := i) (f := f) (xs := xs) (by simpa using hf) (by simpa using hxs)
    refine ⟨by omega, ?_⟩
    have e1 : f.offset - acc = y.length + (f.offset - (acc + P.cellsOf g.type)) := by have := ha.1; omega
    rw [List.flatten_cons, e1, ← List.drop_drop, List.drop_left]
    exact h2

theorem tiles_ok {ok : TypeId → Bool} {n : Nat} : ∀ {fs : List Field} {acc : Nat}, tiles P ok acc fs n = true → ∀ f ∈ fs, ok f.type = true ∧ f.offset + P.cellsOf f.type ≤ n
  | [], _, _, f, hf => by simp at hf
  | g :: r, acc, h, f, hf => by
    simp only [tiles, Bool.and_eq_true] at h
    have h0 := Nat.eq_of_beq_eq_true h.1.1
    rcases List.mem_cons.1 hf with rfl | hf
    · exact ⟨h.1.2, by have := tiles_le h.2; omega⟩
    · exact tiles_ok h.2 f hf

theorem takes_struct {k : Nat} (IH : Takes enc P w base k) {t : TypeId} {fs : Array Field} {cs : List Value} {d : DataW H} (ht : P.underlying t = some (.struct fs)) (hpl : tiles P (plain P k) 0 fs.toList (P.cellsOf t) = true)
    (hf : Fits enc P w t cs d) (h : Heap) (σ : Nat → Addr) (H0 : HR base σ h w) (hr : AllRo h) :
    ∃ t' σ' xs, HR base σ' (h ++ t') w ∧ AllRo (h ++ t') ∧ Ext σ h w σ' (h ++ t') w ∧ All2 (SVR σ' (h ++ t') w) xs cs ∧ View P (h ++ t') (k + 1) t xs d := by
  obtain ⟨fuel, ps, hd⟩ := hf
  obtain ⟨xs0, n, _, hx, hcl, hxl, hel⟩ := DataW.trod_struct ht hd
  injection hx with hx _
  have get : ∀ (i : Nat) (f : Field), fs.toList[i]? = some f → ∃ x, xs0[i]? = some x ∧ DataW.trod enc P w 0 (fun _ => true) true n f.type ((cs.drop f.offset).take (P.cellsOf f.type)) = some x := fun i f hf => by
    have hf' : fs[i]? = some f := by simpa using hf
    have h1 := hel i f hf'
    have hi : i < xs0.length := by rw [hxl]; exact (Array.getElem?_eq_some_iff.1 hf').1
    have h2 := List.getElem?_eq_getElem hi
    exact ⟨_, h2, by rw [h1, h2]⟩
  have hzip : ∀ (i : Nat) p, (fs.toList.zip xs0)[i]? = some p → fs.toList[i]? = some p.1 ∧ xs0[i]? = some p.2 := fun i p hp => by
    rw [List.getElem?_zip_eq_some] at hp; exact hp
  obtain ⟨t1, σ1, xss, H1, r1, E1, a1⟩ := takes_many IH ((fs.toList.zip xs0).map fun p => (p.1.type, (cs.drop p.1.offset).take (P.cellsOf p.1.type), p.2.1))
    (fun q hq => by
      obtain ⟨p, hp, rfl⟩ := List.mem_map.1 hq
      obtain ⟨i, hi⟩ := List.getElem?_of_mem hp
      obtain ⟨h1, h2⟩ := hzip i p hi
      obtain ⟨x, g1, g2⟩ := get i p.1 h1
      rw [h2] at g1
      injection g1 with g1
      subst g1
      exact ⟨(tiles_ok hpl p.1 (List.mem_of_getElem? h1)).1, n, p.2.2, g2⟩) h σ H0 hr
  have hzl : (fs.toList.zip xs0).length = fs.size := by simp [hxl]
  have hxs : xss.length = fs.toList.length := by rw [a1.length]; simp [hxl]
  have each : ∀ (i : Nat) xs f, xss[i]? = some xs → fs.toList[i]? = some f → ∃ x, xs0[i]? = some x ∧ All2 (SVR σ1 (h ++ t1) w) xs ((cs.drop f.offset).take (P.cellsOf f.type)) ∧ View P (h ++ t1) k f.type xs x.1 := fun i xs f h1 h2 => by
    obtain ⟨p, hp, g1, g2⟩ := a1.get i xs h1
    rw [List.getElem?_map] at hp
    obtain ⟨q, hq, rfl⟩ := Option.map_eq_some_iff.1 hp
    obtain ⟨q1, q2⟩ := hzip i q hq
    rw [h2] at q1
    injection q1 with q1
    subst q1
    exact ⟨q.2, q2, g1, g2⟩
  have aR : All2 (fun xs f => All2 (SVR σ1 (h ++ t1) w) xs ((cs.drop f.offset).take (P.cellsOf f.type))) xss fs.toList := All2.of_get hxs fun i xs f h1 h2 => (each i xs f h1 h2).choose_spec.2.1
  have aL : All2 (fun xs (f : Field) => xs.length = P.cellsOf f.type) xss fs.toList := All2.of_get hxs fun i xs f h1 h2 => by
    have h3 := (each i xs f h1 h2).choose_spec.2.1.length
    have h4 := (tiles_ok hpl f (List.mem_of_getElem? h2)).2
    rw [List.length_take, List.length_drop, hcl] at h3
    omega
  have aF := tiles_flat (cs := cs) (R := SVR σ1 (h ++ t1) w) (by rw [hcl]; exact hpl) aR
  rw [List.drop_zero] at aF
  refine ⟨t1, σ1, xss.flatten, H1, r1, E1, aF, ?_⟩
  unfold View
  rw [ht]
  refine ⟨xs0.map (·.1), hx, by rw [aF.length, hcl], by simp [hxl], fun i f x hf hx => ?_⟩
  rw [List.getElem?_map] at hx
  obtain ⟨y, hy, rfl⟩ := Option.map_eq_some_iff.1 hx
  have hf' : fs.toList[i]? = some f := by simpa using hf
  have hi : i < xss.length := by rw [hxs]; exact lt_of_get hf'
  have h1 := List.getElem?_eq_getElem hi
  obtain ⟨x, g1, g2, g3⟩ := each i _ f h1 hf'
  rw [hy] at g1
  injection g1 with g1
  subst g1
  have := (tiles_cut hpl aL hf' h1).2
  rw [Nat.sub_zero] at this
  rw [this]
  exact g3

theorem takes : ∀ k, Takes enc P w w.heap.size k
  | 0 => fun t cs d hp => by simp [plain] at hp
  | k + 1 => fun t cs d hp hf h σ H0 hr => by
    have hp0 := hp
    unfold plain at hp
    split at hp
    · rename_i ht
      obtain ⟨fuel, ps, hd⟩ := hf
      obtain ⟨b, rfl, hx⟩ := DataW.trod_bool ht hd
      injection hx with hx _
      exact ⟨[], σ, [.bool b], by simpa using H0, by simpa using hr, by simpa using Ext.refl σ h w, ⟨rfl, trivial⟩, by unfold View; rw [ht]; exact ⟨b, rfl, hx⟩⟩
    · rename_i q ht
      obtain ⟨fuel, ps, hd⟩ := hf
      obtain ⟨n, rfl, hx, hw⟩ := DataW.trod_int ht hd
      injection hx with hx _
      exact ⟨[], σ, [.int q n], by simpa using H0, by simpa using hr, by simpa using Ext.refl σ h w, ⟨rfl, trivial⟩, by unfold View; rw [ht]; exact ⟨n, rfl, hw, hx⟩⟩
    · rename_i ht
      obtain ⟨fuel, ps, hd⟩ := hf
      obtain ⟨s, rfl, hx, hw⟩ := DataW.trod_string ht hd
      injection hx with hx _
      refine ⟨[], σ, [.str s.data.toList], by simpa using H0, by simpa using hr, by simpa using Ext.refl σ h w, ⟨?_, trivial⟩, by unfold View; rw [ht]; exact ⟨_, rfl, by simpa using hw, hx⟩⟩
      show Value.string s = .string ⟨s.data.toList.toArray⟩
      simp
    · rename_i e ht
      simp only [Bool.and_eq_true, decide_eq_true_eq] at hp
      exact takes_slice (takes k) ht hp.1 hp.2 hf h σ H0 hr
    · rename_i fs ht
      exact takes_struct (takes k) ht hp hf h σ H0 hr
    · simp at hp

/-- a struct's fields: type, place, cells -/
def fieldsOf (P : Program) (t : TypeId) : Option (List (TypeId × Nat × Nat)) := match P.underlying t with
  | some (.struct fs) => some (fs.toList.map fun f => (f.type, f.offset, P.cellsOf f.type))
  | _ => none

theorem View.fields {k : Nat} {t : TypeId} {xs : List SV} {d : DataW H} {L : List (TypeId × Nat × Nat)} {n : Nat} (ht : fieldsOf P t = some L) (hn : P.cellsOf t = n) (hv : View P h (k + 1) t xs d) :
    ∃ parts, d = .agg parts ∧ xs.length = n ∧ parts.length = L.length ∧ ∀ (i : Nat) p x, L[i]? = some p → parts[i]? = some x → View P h k p.1 ((xs.drop p.2.1).take p.2.2) x := by
  unfold fieldsOf at ht
  split at ht
  · rename_i fs hu
    injection ht with ht
    obtain ⟨parts, h1, h2, h3, h4⟩ := hv.struct hu
    refine ⟨parts, h1, by rw [h2, hn], by rw [← ht, h3]; simp, fun i p x hp hx => ?_⟩
    rw [← ht, List.getElem?_map] at hp
    obtain ⟨f, hf, rfl⟩ := Option.map_eq_some_iff.1 hp
    exact h4 i f x (by simpa using hf) hx
  · simp at ht

-- arguments
def isAgg (P : Program) (t : TypeId) : Bool := match P.underlying t with | some (.struct _) => true | _ => false
def tvOf : Bool → List SV → TV
  | true, xs => [.agg xs]
  | false, [x] => [.sc x]
  | false, _ => []
/-- the argument tv of type t is what was read as d -/
def In1 (P : Program) (h : Heap) (k : Nat) (t : TypeId) (tv : TV) (d : DataW H) : Prop := ∃ xs, View P h k t xs d ∧ tv = tvOf (isAgg P t) xs
def Ins (P : Program) (h : Heap) (k : Nat) : List TypeId → List TV → List (DataW H) → Prop
  | [], [], [] => True
  | t :: ts, tv :: tvs, d :: ds => In1 P h k t tv d ∧ Ins P h k ts tvs ds
  | _, _, _ => False

theorem In1.grow {k : Nat} {t : TypeId} {tv : TV} {d : DataW H} (t' : Heap) (hi : In1 P h k t tv d) : In1 P (h ++ t') k t tv d := hi.imp fun _ h => ⟨h.1.grow t', h.2⟩

theorem one_cells {r : Reach} {b0 k : Nat} {t : TypeId} {v : Value} (hp : plain P (k + 1) t = true) (ha : isAgg P t = false) (hv : Value.okWide P w r b0 t v) : v.cells = #[v] := by
  cases v with
  | agg cs =>
    exfalso
    unfold isAgg at ha
    unfold plain at hp
    cases hu : P.underlying t with
    | none => rw [hu] at hp; simp at hp
    | some u =>
      rw [hu] at hp ha
      cases u <;> simp [Value.okWide, Cell.okWide, Cell.ok, hu] at hp ha hv
  | _ => rfl

theorem args_in {k : Nat} {r : Reach} {b0 : Nat} : ∀ {ts : List TypeId} {vs : List Value} {ds : List (DataW H)} {ps : List MemPlace}, DataW.TrodAll enc P w 0 (fun _ => true) true ts vs ds ps → ts.all (plain P (k + 1)) = true →
    (∀ (j : Nat) t v, ts[j]? = some t → vs[j]? = some v → Value.okWide P w r b0 t v) → ∀ h σ, HR w.heap.size σ h w → AllRo h →
    ∃ t' σ' tvs, HR w.heap.size σ' (h ++ t') w ∧ AllRo (h ++ t') ∧ Ext σ h w σ' (h ++ t') w ∧ All2 (TVR σ' (h ++ t') w) tvs vs ∧ Ins P (h ++ t') (k + 1) ts tvs ds
  | [], vs, ds, ps, hA, _, _, h, σ, H0, hr => by
    obtain ⟨rfl, rfl, rfl⟩ := trodAll_nil hA
    exact ⟨[], σ, [], by simpa using H0, by simpa using hr, by simpa using Ext.refl σ h w, trivial, trivial⟩
  | t :: ts, vs, ds, ps, hA, hp, hval, h, σ, H0, hr => by
    obtain ⟨v, vs1, d, ds1, p, q, rfl, rfl, rfl, ⟨fuel, h1⟩, h2⟩ := trodAll_cons hA
    simp only [List.all_cons, Bool.and_eq_true] at hp
    obtain ⟨t1, σ1, xs, H1, r1, E1, a1, v1⟩ := takes (enc := enc) (k + 1) t v.cells.toList d hp.1 ⟨fuel, p, h1⟩ h σ H0 hr
    obtain ⟨t2, σ2, tvs, H2, r2, E2, a2, i2⟩ := args_in h2 hp.2 (fun j t v ht hv => hval (j + 1) t v (by simpa using ht) (by simpa using hv)) (h ++ t1) σ1 H1 r1
    have hv0 := hval 0 t v (by simp) (by simp)
    refine ⟨t1 ++ t2, σ2, tvOf (isAgg P t) xs :: tvs, by rw [← List.append_assoc]; exact H2, by rw [← List.append_assoc]; exact r2, E1.ro_trans E2, ?_⟩
    rw [← List.append_assoc]
    refine ⟨⟨TVR.ext H1 E2 ?_, a2⟩, ⟨xs, v1.grow t2, rfl⟩, i2⟩
    cases ha : isAgg P t with
    | true =>
      unfold isAgg at ha
      split at ha
      · rename_i fs ht
        unfold Value.okWide at hv0
        rw [ht] at hv0
        obtain ⟨cs, rfl, _⟩ := hv0
        exact ⟨cs.toList, by simp, a1⟩
      · simp at ha
    | false =>
      have hc := one_cells hp.1 ha hv0
      rw [hc] at a1
      match xs, a1 with
      | [x], a1 => exact a1.1
      | [], a1 => exact a1.elim
      | _ :: _ :: _, a1 => exact a1.2.elim

/-- a law with arguments: what the limit says of its call, Go does -/
theorem law_enter {F : Funs} {O : Orc} (hF : FunsOk P F) (hO : OrcOk P O) (hm : Mixed P) {f k : Nat} {ts : List TypeId} {r : Reach} {b0 : Nat} {args : Array Value} {ds : List (DataW H)} {ps : List MemPlace}
    (hA : DataW.TrodAll enc P w 0 (fun _ => true) true ts args.toList ds ps) (hval : ∀ (j : Nat) t v, ts[j]? = some t → args[j]? = some v → Value.okWide P w r b0 t v) (hp : ts.all (plain P (k + 1)) = true)
    (core : ∀ h tvs, AllRo h → Ins P h (k + 1) ts tvs ds → ∃ h', callE F O f tvs h = some ([.sc (.bool true)], h')) :
    Calls P f args w fun e w' => e = .returned (.bool true) ∧ Below w.heap.size w w' := by
  have Hn : HR w.heap.size (fun _ => ⟨0, 0, none⟩) [] w := ⟨Nat.le_refl _, fun j B hB => by simp at hB, fun i j B C hB => by simp at hB⟩
  obtain ⟨t', σ', tvs, H1, r1, E1, a1, i1⟩ := args_in hA hp (fun j t v ht hv => hval j t v ht (by simpa using hv)) [] _ Hn (fun j B hB => by simp at hB)
  obtain ⟨h', hh⟩ := core _ tvs r1 i1
  obtain ⟨_, hcall⟩ := callE_ok hF hO hm f tvs _ _ _ hh
  refine (hcall _ σ' w args.toList H1 a1).mono fun e w' ⟨σ2, v, he, H2, E2, hv⟩ => ⟨?_, Ext.below H1 E2⟩
  have hv' : v = .bool true := hv
  rw [he, hv']
end
end Go.Abs
