/- The abstract machine, part 7: '==' of structs and arrays; what is built; cuts and conversions. -/
import Derived.Test.YtdodhmidhcpnnaaX6
import Derived.ChangeKeysEq
import Derived.Lib.Strings
set_option linter.unusedVariables false
set_option linter.unusedSimpArgs false
namespace Go.Abs

def repL {α : Type} (ks : List α) : Nat → List α
  | 0 => []
  | n + 1 => ks ++ repL ks n

def flatK (P : Program) : Nat → TypeId → Option (List FK)
  | 0, _ => none
  | d + 1, t => match P.underlying t with
    | some .bool => some [.b]
    | some (.int _) => some [.i]
    | some .string => some [.s]
    | some (.array n e) => (flatK P d e).bind fun ks => if szTy P e = some ks.length then some (repL ks n) else none
    | some (.struct fs) => if P.stoodInHeld t then none else
        fs.toList.foldr (fun f acc => acc.bind fun ks => (flatK P d f.type).bind fun k => if f.name ≠ "_" ∧ szTy P f.type = some k.length then some (k ++ ks) else none) (some [])
    | _ => none

/-- the offsets of a struct's fields, one behind the other -/
def offsOk (P : Program) : Nat → List Field → Bool
  | _, [] => true
  | o, f :: r => f.offset == o && (match szTy P f.type with | some n => offsOk P (o + n) r | none => false)

/-- are all structs in the type laid so? -/
def laidOk (P : Program) : Nat → TypeId → Bool
  | 0, _ => false
  | d + 1, t => match P.underlying t with
    | some (.array _ e) => laidOk P d e
    | some (.struct fs) => offsOk P 0 fs.toList && fs.toList.all fun f => laidOk P d f.type
    | _ => true

theorem eqK_length : ∀ {ks : List FK} {l m : List SV} {r : Bool}, eqK ks l m = some r → l.length = ks.length ∧ m.length = ks.length
  | [], [], [], _, _ => ⟨rfl, rfl⟩
  | k :: ks, a :: l, b :: m, r, h => by
    simp only [eqK] at h
    split at h
    · rename_i x y h1 h2
      have := eqK_length h2
      exact ⟨by simp [this.1], by simp [this.2]⟩
    · contradiction
  | [], _ :: _, _, _, h => by simp [eqK] at h
  | [], [], _ :: _, _, h => by simp [eqK] at h
  | _ :: _, [], _, _, h => by simp [eqK] at h
  | _ :: _, _ :: _, [], _, h => by simp [eqK] at h

theorem eqK_append : ∀ {k1 k2 : List FK} {l m : List SV} {r : Bool}, eqK (k1 ++ k2) l m = some r →
    ∃ r1 r2, eqK k1 (l.take k1.length) (m.take k1.length) = some r1 ∧ eqK k2 (l.drop k1.length) (m.drop k1.length) = some r2 ∧ r = (r1 && r2)
  | [], k2, l, m, r, h => ⟨true, r, by simp [eqK], by simpa using h, by simp⟩
  | k :: k1, k2, a :: l, b :: m, r, h => by
    simp only [List.cons_append, eqK] at h
    split at h
    · rename_i x y h1 h2
      injection h with h
      obtain ⟨r1, r2, e1, e2, e3⟩ := eqK_append h2
      refine ⟨x && r1, r2, ?_, by simpa using e2, by rw [← h, e3, Bool.and_assoc]⟩
      simp [eqK, h1, e1]
    · contradiction
  | _ :: _, _, [], _, _, h => by simp [eqK] at h
  | _ :: _, _, _ :: _, [], _, h => by simp [eqK] at h

section
variable {P : Program} {base : Nat} {σ : Nat → Addr} {h h' : Heap} {w : World} {tv : TV}

theorem cells_seg {l : List SV} {cs : List Value} (ha : All2 (SVR σ h w) l cs) (o n : Nat) : All2 (SVR σ h w) ((l.drop o).take n) ((cs.drop o).take n) := (ha.drop o).take n

theorem one_cell {k : FK} {l m : List SV} {r : Bool} (hr : eqK [k] l m = some r) : ∃ a b, l = [a] ∧ m = [b] ∧ eq1 k a b = some r := by
  match l, m, hr with
  | [a], [b], hr =>
    refine ⟨a, b, rfl, rfl, ?_⟩
    simp only [eqK] at hr
    cases he : eq1 k a b with
    | none => simp [he] at hr
    | some x => simpa [he] using hr
  | [], _, hr => simp [eqK] at hr
  | _ :: _ :: _, [], hr => simp [eqK] at hr
  | _ :: _ :: _, _ :: _, hr => simp [eqK] at hr
  | [_], [], hr => simp [eqK] at hr
  | [_], _ :: _ :: _, hr => simp [eqK] at hr

theorem seg_one {α : Type} {l : List α} {o : Nat} {a : α} (h : (l.drop o).take 1 = [a]) : l[o]? = some a := by
  have := congrArg (·[0]?) h
  simpa [List.getElem?_take, List.getElem?_drop] using this

/-- two values of a flat type, side by side in longer rows of cells -/
theorem eq_seg (d' : Nat) : ∀ (d : Nat) (t : TypeId) (ks : List FK), flatK P d t = some ks → laidOk P d t = true → szTy P t = some ks.length → ∀ {l m : List SV} {xs ys : List Value} (o : Nat) {r : Bool}, All2 (SVR σ h w) l xs → All2 (SVR σ h w) m ys →
    eqK ks ((l.drop o).take ks.length) ((m.drop o).take ks.length) = some r →
    ∃ a b, (part t xs.toArray o).run P w = .ok a w ∧ (part t ys.toArray o).run P w = .ok b w ∧ (Op.equalIn (d' + d) t a b).run P w = .ok r w
  | 0, t, ks, hk, _, _, l, m, xs, ys, o, r, hx, hy, hr => by simp [flatK] at hk
  | d + 1, t, ks, hk, hl, hz, l, m, xs, ys, o, r, hx, hy, hr => by
    unfold flatK at hk
    have plain : ∀ (k : FK), ks = [k] → aggTy P t = some false → (∀ x y a b, eq1 k x y = some r → SVR σ h w x a → SVR σ h w y b → (Op.equalIn (d' + (d + 1)) t a b).run P w = .ok r w) →
        ∃ a b, (part t xs.toArray o).run P w = .ok a w ∧ (part t ys.toArray o).run P w = .ok b w ∧ (Op.equalIn (d' + (d + 1)) t a b).run P w = .ok r w := fun k hks hag heq => by
      subst hks
      obtain ⟨x, y, h1, h2, h3⟩ := one_cell hr
      obtain ⟨a, ha, hra⟩ := All2.get hx o x (seg_one h1)
      obtain ⟨b, hb, hrb⟩ := All2.get hy o y (seg_one h2)
      exact ⟨a, b, by simp [part, run_isAgg hag, ha], by simp [part, run_isAgg hag, hb], heq x y a b h3 hra hrb⟩
    have wide : aggTy P t = some true → ∀ (f : (Op.equalIn (d' + (d + 1)) t (.agg ((xs.drop o).take ks.length).toArray) (.agg ((ys.drop o).take ks.length).toArray)).run P w = .ok r w),
        ∃ a b, (part t xs.toArray o).run P w = .ok a w ∧ (part t ys.toArray o).run P w = .ok b w ∧ (Op.equalIn (d' + (d + 1)) t a b).run P w = .ok r w := fun hag f => by
      refine ⟨_, _, ?_, ?_, f⟩ <;> simp only [part, Sem.run_bind, run_isAgg hag, Result.andThen_ok, if_true, run_sizeTy hz, Sem.run_pure, extract_toArray, Nat.add_sub_cancel_left]
    cases hu : P.underlying t with
    | none => simp [hu] at hk
    | some kd =>
      cases kd <;> simp only [hu] at hk <;> try contradiction
      case bool =>
        injection hk with hk
        refine plain .b hk.symm (by simp [aggTy, hu]) fun x y a b he ha hb => ?_
        cases x <;> cases y <;> simp only [eq1] at he <;> try contradiction
        injection he with he
        rw [show a = _ from ha, show b = _ from hb, ← he]
        simp [Op.equalIn, run_underlying hu, ← Nat.add_assoc]
      case int q =>
        injection hk with hk
        refine plain .i hk.symm (by simp [aggTy, hu]) fun x y a b he ha hb => ?_
        cases x <;> cases y <;> simp only [eq1] at he <;> try contradiction
        split at he
        · rename_i hkk
          injection he with he
          rw [show a = _ from ha, show b = _ from hb, ← he, hkk]
          simp [Op.equalIn, run_underlying hu, ← Nat.add_assoc]
        · contradiction
      case string =>
        injection hk with hk
        refine plain .s hk.symm (by simp [aggTy, hu]) fun x y a b he ha hb => ?_
        cases x <;> cases y <;> simp only [eq1] at he <;> try contradiction
        injection he with he
        rw [show a = _ from ha, show b = _ from hb, ← he]
        simp [Op.equalIn, run_underlying hu, ← Nat.add_assoc, beq_toListBytes, toList_mk]
      case array n e =>
        simp only [Option.bind_eq_some_iff] at hk
        obtain ⟨k, hk1, hk2⟩ := hk
        split at hk2
        · rename_i hse
          injection hk2 with hk2
          subst hk2
          have hle : laidOk P d e = true := by unfold laidOk at hl; simpa [hu] using hl
          have hcell : P.cellsOf e = k.length := by unfold szTy at hse; unfold Program.cellsOf; rw [hse]; rfl
          refine wide (by simp [aggTy, hu]) ?_
          cases hi : P.info? e with
          | none => simp [szTy, hi] at hse
          | some i =>
            rw [show d' + (d + 1) = (d' + d) + 1 from rfl, run_equalIn_array w (d' + d) _ _ hu hi, hcell]
            have key : ∀ (n s : Nat) (r : Bool) (L M : List SV) (X Y : List Value), All2 (SVR σ h w) L X → All2 (SVR σ h w) M Y →
                eqK (repL k n) ((L.drop (s * k.length)).take (repL k n).length) ((M.drop (s * k.length)).take (repL k n).length) = some r →
                (Op.eqItems (d' + d) e k.length X.toArray Y.toArray (List.range' s n)).run P w = .ok r w := by
              intro n
              induction n with
              | zero =>
                intro s r L M X Y _ _ hr
                simp only [repL, List.length_nil, List.take_zero, eqK] at hr
                injection hr with hr
                subst hr
                simp [Op.eqItems]
              | succ n ih =>
                intro s r L M X Y hX hY hr
                obtain ⟨r1, r2, e1, e2, e3⟩ := eqK_append (k1 := k) (k2 := repL k n) hr
                have c1 : ((L.drop (s * k.length)).take (repL k (n + 1)).length).take k.length = (L.drop (s * k.length)).take k.length := by
                  rw [List.take_take]; congr 1; simp [repL]
                have c2 : ((M.drop (s * k.length)).take (repL k (n + 1)).length).take k.length = (M.drop (s * k.length)).take k.length := by
                  rw [List.take_take]; congr 1; simp [repL]
                have c3 : ((L.drop (s * k.length)).take (repL k (n + 1)).length).drop k.length = (L.drop ((s + 1) * k.length)).take (repL k n).length := by
                  rw [List.drop_take, List.drop_drop]; congr 1
                  · simp [repL]
                  · rw [Nat.add_mul, Nat.one_mul]
                have c4 : ((M.drop (s * k.length)).take (repL k (n + 1)).length).drop k.length = (M.drop ((s + 1) * k.length)).take (repL k n).length := by
                  rw [List.drop_take, List.drop_drop]; congr 1
                  · simp [repL]
                  · rw [Nat.add_mul, Nat.one_mul]
                rw [c1, c2] at e1
                rw [c3, c4] at e2
                obtain ⟨a, b, p1, p2, p3⟩ := eq_seg d' d e k hk1 hle hse (s * k.length) hX hY e1
                simp only [List.range'_succ, Op.eqItems, Sem.run_bind, p1, p2, p3, Result.andThen_ok]
                cases r1
                · simp [e3]
                · simp only [Bool.not_true, Bool.false_eq_true, if_false]
                  rw [ih (s + 1) r2 L M X Y hX hY e2, e3]
                  simp
            have hr' : eqK (repL k n) ((((l.drop o).take (repL k n).length).drop (0 * k.length)).take (repL k n).length) ((((m.drop o).take (repL k n).length).drop (0 * k.length)).take (repL k n).length) = some r := by
              simpa [List.take_take] using hr
            rw [List.range_eq_range']
            exact key n 0 r _ _ _ _ (cells_seg hx o _) (cells_seg hy o _) hr'
        · contradiction
      case struct fs =>
        split at hk
        · contradiction
        · rename_i hheld
          have hheld' : P.stoodInHeld t = false := by simpa using hheld
          refine wide (by simp [aggTy, hu]) ?_
          have hfs : P.fieldsOf t = fs := by simp [Program.fieldsOf, hu]
          rw [show d' + (d + 1) = (d' + d) + 1 from rfl, run_equalIn_struct w (d' + d) t _ _ (by rw [hfs]; exact hu) hheld', hfs]
          have hl' : offsOk P 0 fs.toList = true ∧ ∀ f ∈ fs.toList, laidOk P d f.type = true := by
            unfold laidOk at hl
            simp only [hu, Bool.and_eq_true] at hl
            exact ⟨hl.1, fun f hf => by
              have := hl.2
              rw [List.all_eq_true] at this
              exact this f hf⟩
          have key : ∀ (gs : List Field) (s : Nat) (kk : List FK) (r : Bool) (L M : List SV) (X Y : List Value), All2 (SVR σ h w) L X → All2 (SVR σ h w) M Y → offsOk P s gs = true → (∀ f ∈ gs, laidOk P d f.type = true) →
              gs.foldr (fun f acc => acc.bind fun ks => (flatK P d f.type).bind fun k => if f.name ≠ "_" ∧ szTy P f.type = some k.length then some (k ++ ks) else none) (some []) = some kk →
              eqK kk ((L.drop s).take kk.length) ((M.drop s).take kk.length) = some r → (Op.eqFields (d' + d) X.toArray Y.toArray gs).run P w = .ok r w := by
            intro gs
            induction gs with
            | nil =>
              intro s kk r L M X Y _ _ _ _ hf hr
              simp only [List.foldr_nil] at hf
              injection hf with hf
              subst hf
              simp only [List.length_nil, List.take_zero, eqK] at hr
              injection hr with hr
              subst hr
              simp [Op.eqFields]
            | cons f gs ih =>
              intro s kk r L M X Y hX hY ho hla hf hr
              simp only [List.foldr_cons, Option.bind_eq_some_iff] at hf
              obtain ⟨k2, hk2, k1, hk1, hf⟩ := hf
              split at hf
              · rename_i hc
                obtain ⟨hn, hsz⟩ := hc
                injection hf with hf
                subst hf
                obtain ⟨r1, r2, e1, e2, e3⟩ := eqK_append (k1 := k1) (k2 := k2) hr
                have c1 : ∀ (Z : List SV), ((Z.drop s).take (k1 ++ k2).length).take k1.length = (Z.drop s).take k1.length := fun Z => by
                  rw [List.take_take]; congr 1; simp
                have c3 : ∀ (Z : List SV), ((Z.drop s).take (k1 ++ k2).length).drop k1.length = (Z.drop (s + k1.length)).take k2.length := fun Z => by
                  rw [List.drop_take, List.drop_drop]; congr 1; simp
                rw [c1, c1] at e1
                rw [c3, c3] at e2
                simp only [offsOk, hsz, Bool.and_eq_true, beq_iff_eq] at ho
                obtain ⟨ho1, ho2⟩ := ho
                obtain ⟨a, b, p1, p2, p3⟩ := eq_seg d' d f.type k1 hk1 (hla f (by simp)) hsz s hX hY e1
                rw [← ho1] at p1 p2
                simp only [Op.eqFields, hn, ne_eq, not_false_eq_true, if_true, Sem.run_bind, p1, p2, p3, Result.andThen_ok]
                cases r1
                · simp [e3]
                · simp only [Bool.not_true, Bool.false_eq_true, if_false]
                  rw [ih (s + k1.length) k2 r2 L M X Y hX hY ho2 (fun g hg => hla g (by simp [hg])) hk2 e2, e3]
                  simp
              · contradiction
          exact key fs.toList 0 ks r _ _ _ _ (cells_seg hx o _) (cells_seg hy o _) hl'.1 hl'.2 hk (by simpa [List.take_take] using hr)

/-- may '==' of this type be told cell by cell? -/
def eqTy (P : Program) (t : TypeId) (ks : List FK) : Bool :=
  flatK P 20 t == some ks && laidOk P 20 t && szTy P t == some ks.length && aggTy P t == some true && !P.eqGuardType P.depth t

theorem g_eqa (H : HR base σ h w) {t : TypeId} {ks : List FK} (hty : eqTy P t ks = true) {neg : Bool} {l m : List SV} {xs ys : List Value} (hx : All2 (SVR σ h w) l xs) (hy : All2 (SVR σ h w) m ys) {r : Bool} (hr : eqK ks l m = some r) (x y : Operand) :
    Good P base σ h w (do eqGuard (if neg then .neq else .eql) t x y (.agg xs.toArray) (.agg ys.toArray); binOp (if neg then .neq else .eql) t (.agg xs.toArray) (.agg ys.toArray)) [.sc (.bool (if neg then !r else r))] h := by
  unfold eqTy at hty
  simp only [Bool.and_eq_true, beq_iff_eq, Bool.not_eq_true'] at hty
  obtain ⟨⟨⟨⟨h1, h2⟩, h3⟩, h4⟩, h5⟩ := hty
  refine Good.same H (v := .bool (if neg then !r else r)) ?_ rfl
  rw [Sem.run_bind, run_eqGuard_agg (w := w) _ _ _ _ _ _ h5]
  simp only [Result.andThen_ok]
  refine run_eql neg t _ _ r (by cases neg <;> rfl) ?_
  have hl := eqK_length hr
  obtain ⟨a, b, p1, p2, p3⟩ := eq_seg (P := P) 9980 20 t ks h1 h2 h3 0 hx hy (r := r) (by simp only [List.drop_zero]; rw [← hl.1, List.take_length, hl.1, ← hl.2, List.take_length]; exact hr)
  simp only [part, Sem.run_bind, run_isAgg h4, Result.andThen_ok, if_true, run_sizeTy h3, Sem.run_pure] at p1 p2
  injection p1 with p1
  injection p2 with p2
  rw [← p1, ← p2, extract_toArray, extract_toArray] at p3
  have ex : (xs.drop 0).take (0 + ks.length - 0) = xs := by rw [List.drop_zero, Nat.zero_add, Nat.sub_zero, ← hl.1, All2.length hx, List.take_length]
  have ey : (ys.drop 0).take (0 + ks.length - 0) = ys := by rw [List.drop_zero, Nat.zero_add, Nat.sub_zero, ← hl.2, All2.length hy, List.take_length]
  rw [ex, ey] at p3
  exact p3
end
end Go.Abs
