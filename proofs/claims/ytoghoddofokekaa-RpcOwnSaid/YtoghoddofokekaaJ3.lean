/- Several chapters in one text. -/
import Derived.Test.YtoghoddofokekaaJ2
section
set_option linter.unusedVariables false
set_option linter.unusedSimpArgs false
set_option maxRecDepth 100000
namespace Go.Proofs.Ytoghoddofokekaa
open Go.Abs

section
variable {N : Nat} {hB h : Heap} {i : Nat} {x : SV} {l : List UInt8} {p : Nat} {m : Ms} {xe xd : SV} {a bad a' bad' : Nat}

theorem spec101 (r : Rd h i x l a bad) {f w : List UInt8} (hf : f.length < 1000) {most : Nat} (hm : most < 18446744073709551616) :
    ∃ h', call 101 [[.sc (.ptr i 0 3)], [.sc (.str f)], [.sc (.str w)], [.sc (.int .u64 most)]] h = some ([.sc (.int .u64 ((if hasL f w then rNum l a bad most else (0, a, bad)).1 : Nat))], h') ∧ RdS h i x l h' (if hasL f w then rNum l a bad most else (0, a, bad)).2.1 (if hasL f w then rNum l a bad most else (0, a, bad)).2.2 := by
  have qh := spec56 h (w := w) hf
  cases hh : hasL f w
  · rw [hh] at qh
    simp only [Bool.false_eq_true, if_false]
    refine ⟨h, callX (hh := h) rfl (by rfl : F 101 = some M.a101) (fun R RO RD RT E => ?_), ⟨r, Mod.refl _ _⟩⟩
    simp [M.a101, E.eqs, qh]
  · rw [hh] at qh
    simp only [if_true]
    have q := spec79 r hm
    have s := rNum_go r most
    generalize rNum l a bad most = D at *
    obtain ⟨n, a1, b1⟩ := D
    simp only at q s ⊢
    have tr := trim_setR (h := h) (i := i) (x := x) (a' := a1) (bad' := b1) [.sc (.int .u64 (n : Int))]
    refine ⟨setR h i x a1 b1, callX (hh := setR h i x a1 b1) rfl (by rfl : F 101 = some M.a101) (fun R RO RD RT E => ?_), s⟩
    clear s
    generalize setR h i x a1 b1 = g at *
    simp [M.a101, E.eqs, qh, q, tr]

set_option maxHeartbeats 2000000 in
theorem dents_loop (hl : l.length ≤ 140737488353280) (n0 : Nat) (hn0 : n0 ≤ 4) : ∀ (n k : Nat) (H : Heap) (m : Ms) (xe : SV) (a bad : Nat) (e : Env), k + n = n0 → RM N hB H i x l p m xe xd a bad → (0 < n → bad = 0) → m.es.length + n ≤ 1000 → e.get 0 = [.sc (.ptr i 0 3)] → e.get 1 = [.sc (.ptr p 0 15)] → e.get 5 = [.sc (.int .u64 n0)] → e.get 6 = [.sc (.int .u64 k)] →
    ∃ (H' : Heap) (ws : List (En × SV)) (xe' : SV) (r : AEx × Env × Heap), loopE F O (.loop [0, 1, 5, 6] M.b102_0) e H = some r ∧ RM N hB H' i x l p (m.wes (m.es ++ ws)) xe' xd (rEnts l n a bad).2.1 (rEnts l n a bad).2.2.1 ∧ ws.map (·.1) = (rEnts l n a bad).1 ∧ RMS H H' m (m.wes (m.es ++ ws)) xe xd xe' xd ∧
      ((∃ e', r = (.exit 0, e', H') ∧ (rEnts l n a bad).2.2.2 = 0) ∨ r = (.ret, [(4, [.sc (.int .i64 ((rEnts l n a bad).2.2.2 : Nat))])], H'))
  | 0, k, H, m, xe, a, bad, e, hk, r, hb, hn, e0, e1, e5, e6 => by
    have hw : m.wes (m.es ++ []) = m := by rw [List.append_nil]; rfl
    have c1 : ¬ k < n0 := by omega
    refine ⟨H, [], xe, (.exit 0, [(0, [.sc (.ptr i 0 3)]), (1, [.sc (.ptr p 0 15)]), (5, [.sc (.int .u64 n0)]), (6, [.sc (.int .u64 k)]), (21, [.sc (.bool false)])], H), exitM fun R RO RD RT E => ?_, ?_, rfl, ?_, .inl ⟨_, rfl, rfl⟩⟩
    · simp [M.b102_0, E.eqs, e0, e1, e5, e6, c1]
    · rw [hw]; exact r
    · rw [hw]; exact RMS.refl _ _ _ _
  | n + 1, k, H, m, xe, a, bad, e, hk, r, hb, hn, e0, e1, e5, e6 => by
    have h0 := hb (by omega)
    subst h0
    have c1 : k < n0 := by omega
    have wn : IntKind.u64.wrap ((k : Int) + 1) = ((k + 1 : Nat) : Int) := by rw [wu64 (by omega) (by omega)]; omega
    have rn0 := r.rd.nil
    have rf0 := r.rd.fld 2
    have rl0 := r.rd.l2
    have rl0 : loadA H false 1 [.sc (.ptr i 2 3)] = some ([.sc (.int .i64 0)], H) := rl0
    obtain ⟨h1, y, qT, t⟩ := spec96 r.rd (most := 160) (by omega) (by omega)
    have hTl := rText_most l a 0 160
    have rn1 := t.rd.nil
    have rf1 := t.rd.fld 2
    have rl1 := t.rd.l2
    unfold rEnts
    generalize hrt : rText l a 0 160 = rt at *
    obtain ⟨T, a1, b1⟩ := rt
    simp only at t hTl rn1 rf1 rl1 ⊢
    by_cases hb1 : b1 = 0
    · subst hb1
      rw [if_neg (by simp)]
      have rl1 : loadA h1 false 1 [.sc (.ptr i 2 3)] = some ([.sc (.int .i64 0)], h1) := rl1
      obtain ⟨h2, z, qE, f2⟩ := spec46 t.own.row (by omega)
      obtain ⟨h3, hh3⟩ : ∃ h3 : Heap, h3 = h2 ++ [⟨.var, (rEnt T).1.c z⟩] := ⟨_, rfl⟩
      have m3 : Mod (fun _ => False) h2 h3 := by rw [hh3]; exact Mod.app _ _ _
      have m13 : Mod (fun _ => False) h1 h3 := f2.mod.trans m3 fun _ _ h => h
      have mH : Mod (fun j => j = i) H h3 := t.mod.trans m13 fun _ _ h => h.elim
      have rd3 := t.rd.beside m13 (fun h => h) fun _ _ h => h
      have b3 : h3[h2.length]? = some ⟨.var, (rEnt T).1.c z⟩ := by rw [hh3]; simp
      have hz3 := f2.own.mod m3 fun _ _ h => h
      have d1 : ((rEnt T).1.c z).length = 5 := rfl
      have d2 : ((rEnt T).1.c z).take 5 = (rEnt T).1.c z := rfl
      have d0 : setCells [.int .i64 0, .int .u64 0, .int .u64 0, .nils, .int .i64 0] 0 ((rEnt T).1.c z) = (rEnt T).1.c z := rfl
      have l5 : loadA h3 true 5 [.sc (.ptr h2.length 0 5)] = some ([.agg ((rEnt T).1.c z)], h3) := by simp [loadA, b3, d1, d2]
      have st0 : storeA (h2 ++ [⟨.var, [.int .i64 0, .int .u64 0, .int .u64 0, .nils, .int .i64 0]⟩]) 5 [.sc (.ptr h2.length 0 5)] [.agg ((rEnt T).1.c z)] = some ([], h3) := by rw [hh3]; simp [storeA, d0, d1]
      have hlt := rEnt_lt T
      by_cases he : (rEnt T).2 = 0
      · rw [if_neg (by simp [he])]
        rw [he] at qE
        obtain ⟨p1, p2, r4, s4⟩ := r.push (z := ((rEnt T).1, z)) mH rd3 hz3 (fun j hj => Nat.le_trans t.mod.1 (f2.new j hj)) hlt (by omega)
        have p3 := r.cell mH
        have cl : ∀ (m' : Ms) (u v : SV), (m'.cells u v).length = 15 := fun _ _ _ => rfl
        have c6 : ∀ hh, (m.cells xe xd)[6]'hh = xe := fun _ => rfl
        have st : (m.cells xe xd).set 6 (appV h3 xe 5 1) = (m.wes (m.es ++ [((rEnt T).1, z)])).cells (appV h3 xe 5 1) xd := rfl
        simp only at p1 p2 r4 s4
        generalize hxe4 : appV h3 xe 5 1 = xe4 at *
        generalize appH h3 xe 57 5 1 ((rEnt T).1.c z) = h4 at *
        obtain ⟨h5, hh5⟩ : ∃ h5 : Heap, h5 = h4.set p ⟨.var, (m.wes (m.es ++ [((rEnt T).1, z)])).cells xe4 xd⟩ := ⟨_, rfl⟩
        rw [← hh5] at r4 s4
        obtain ⟨H', ws, xe', rr, lo, rf, hw, sf, out⟩ := dents_loop hl n0 hn0 n (k + 1) h5 _ xe4 a1 0 [(0, [.sc (.ptr i 0 3)]), (1, [.sc (.ptr p 0 15)]), (5, [.sc (.int .u64 (n0 : Int))]), (6, [.sc (.int .u64 ((k + 1 : Nat) : Int))])] (by omega) r4 (fun _ => rfl) (by show (m.es ++ [((rEnt T).1, z)]).length + n ≤ 1000; simp; omega) rfl rfl rfl rfl
        have ew : (m.wes (m.es ++ [((rEnt T).1, z)])).wes ((m.wes (m.es ++ [((rEnt T).1, z)])).es ++ ws) = m.wes (m.es ++ (((rEnt T).1, z) :: ws)) := by
          simp [Ms.wes]
        rw [ew] at rf sf
        refine ⟨H', ((rEnt T).1, z) :: ws, xe', rr, stepM (fun R RO RD RT E => ?_) lo, rf, by simp [hw], s4.trans sf, out⟩
        clear lo rf sf out r4 s4 f2 t rd3 mH m13 m3 hz3
        have l6 : loadA h3 false 1 [.sc (.ptr p 6 15)] = some ([.sc xe], h3) := by simp [loadA, p3, cl, c6]
        have s6 : storeA h4 1 [.sc (.ptr p 6 15)] [.sc xe4] = some ([], h5) := by
          rw [hh5]
          simp [storeA, p2, cl, st]
        have n1 : nilckA h3 [.sc (.ptr p 0 15)] = some ([.sc (.ptr p 0 15)], h3) := by simp [nilckA, freshB, p3, cl]
        have n2 : nilckA h4 [.sc (.ptr p 0 15)] = some ([.sc (.ptr p 0 15)], h4) := by simp [nilckA, freshB, p2, cl]
        have g1 : fldA h3 6 [.sc (.ptr p 0 15)] = some ([.sc (.ptr p 6 15)], h3) := by simp [fldA, freshB, p3, cl]
        have g2 : fldA h4 6 [.sc (.ptr p 0 15)] = some ([.sc (.ptr p 6 15)], h4) := by simp [fldA, freshB, p2, cl]
        generalize (rEnt T).1.c z = zc at *
        generalize hk2 : ((k + 1 : Nat) : Int) = kk at *
        simp [M.b102_0, E.eqs, e0, e1, e5, e6, c1, rn0, rf0, rl0, qT, rn1, rf1, rl1, qE, st0, d0, d1, l5, l6, n1, n2, g1, g2, p1, s6, wn]
      · rw [if_pos he]
        have he' : ¬ (((rEnt T).2 : Nat) : Int) = 0 := by omega
        obtain ⟨r3, s3⟩ := r.go mH rd3
        have hw : m.wes (m.es ++ []) = m := by rw [List.append_nil]; rfl
        refine ⟨h3, [], xe, (.ret, [(4, [.sc (.int .i64 ((rEnt T).2 : Nat))])], h3), retM fun R RO RD RT E => ?_, by rw [hw]; exact r3, rfl, by rw [hw]; exact s3, .inr rfl⟩
        clear r3 s3 f2 t rd3 mH m13 m3 hz3
        generalize (rEnt T).2 = er at *
        generalize (rEnt T).1.c z = zc at *
        simp [M.b102_0, E.eqs, e0, e1, e5, e6, c1, rn0, rf0, rl0, qT, rn1, rf1, rl1, qE, st0, he, he']
    · rw [if_pos hb1]
      have hb1' : ¬ ((b1 : Nat) : Int) = 0 := by omega
      obtain ⟨r3, s3⟩ := r.go t.mod t.rd
      have hw : m.wes (m.es ++ []) = m := by rw [List.append_nil]; rfl
      refine ⟨h1, [], xe, (.ret, [(4, [.sc (.int .i64 ((0 : Nat) : Int))])], h1), retM fun R RO RD RT E => ?_, by rw [hw]; exact r3, rfl, by rw [hw]; exact s3, .inr rfl⟩
      clear r3 s3 t
      simp [M.b102_0, E.eqs, e0, e1, e5, e6, c1, rn0, rf0, rl0, qT, rn1, rf1, rl1, hb1, hb1']

theorem spec102 (r : RM N hB h i x l p m xe xd a bad) (hm : m.es.length ≤ 900) : ∃ (h' : Heap) (ws : List (En × SV)) (xe' : SV), call 102 [[.sc (.ptr i 0 3)], [.sc (.ptr p 0 15)]] h = some ([.sc (.int .i64 ((rFld l 9 ⟨m.plain, a, bad, 0⟩).err : Nat))], h') ∧
    RM N hB h' i x l p (m.wes (m.es ++ ws)) xe' xd (rFld l 9 ⟨m.plain, a, bad, 0⟩).a (rFld l 9 ⟨m.plain, a, bad, 0⟩).bad ∧ (m.wes (m.es ++ ws)).plain = (rFld l 9 ⟨m.plain, a, bad, 0⟩).m := by
  have hl := r.rd.len
  have q1 := spec79 r.rd (most := 4) (by omega)
  have s1 := rNum_go r.rd 4
  have hmost := rNum_most l a bad 4
  have hpos := @rNum_pos l a bad 4
  show ∃ (h' : Heap) (ws : List (En × SV)) (xe' : SV), call _ _ _ = some ([.sc (.int .i64 ((rEnts l (rNum l a bad 4).1 (rNum l a bad 4).2.1 (rNum l a bad 4).2.2).2.2.2 : Nat))], h') ∧ RM N hB h' i x l p (m.wes (m.es ++ ws)) xe' xd (rEnts l (rNum l a bad 4).1 (rNum l a bad 4).2.1 (rNum l a bad 4).2.2).2.1 (rEnts l (rNum l a bad 4).1 (rNum l a bad 4).2.1 (rNum l a bad 4).2.2).2.2.1 ∧ (m.wes (m.es ++ ws)).plain = m.plain.wes (m.plain.es ++ pl (rEnts l (rNum l a bad 4).1 (rNum l a bad 4).2.1 (rNum l a bad 4).2.2).1)
  generalize rNum l a bad 4 = D at *
  obtain ⟨n, a1, b1⟩ := D
  simp only at q1 s1 hmost hpos ⊢
  have z1 : ((4 : Nat) : Int) = 4 := rfl
  rw [z1] at q1
  obtain ⟨r1, t1⟩ := r.go s1.mod s1.rd
  generalize setR h i x a1 b1 = h1 at *
  obtain ⟨H', ws, xe', rr, lo, rf, hw, sf, out⟩ := dents_loop hl n hmost n 0 h1 m xe a1 b1 [(0, [.sc (.ptr i 0 3)]), (1, [.sc (.ptr p 0 15)]), (5, [.sc (.int .u64 n)]), (6, [.sc (.int .u64 ((0 : Nat) : Int))])] (by omega) r1 hpos (by omega) rfl rfl rfl rfl
  have lo := loop_run lo
  rcases out with ⟨e', rfl, h0⟩ | rfl
  · obtain ⟨r2, t2⟩ := r.trim rf (t1.trans sf) [.sc (.int .i64 ((0 : Nat) : Int))]
    rw [h0]
    refine ⟨_, ws, xe', callX (hh := Go.Abs.trim h H' [.sc (.int .i64 ((0 : Nat) : Int))]) rfl (by rfl : F 102 = some M.a102) (fun R RO RD RT E => ?_), r2, plain_app hw⟩
    have lo := E.run lo
    have lo : R (ACode.loop [0, 1, 5, 6] M.b102_0) [(0, [.sc (.ptr i 0 3)]), (1, [.sc (.ptr p 0 15)]), (5, [.sc (.int .u64 n)]), (6, [.sc (.int .u64 0)])] h1 = _ := lo
    clear r2 t2 rf sf r1 t1 s1
    simp [M.a102, E.eqs, q1, lo]
  · generalize (rEnts l n a1 b1).2.2.2 = v at *
    obtain ⟨r2, t2⟩ := r.trim rf (t1.trans sf) [.sc (.int .i64 (v : Int))]
    refine ⟨_, ws, xe', callX (hh := Go.Abs.trim h H' [.sc (.int .i64 (v : Int))]) rfl (by rfl : F 102 = some M.a102) (fun R RO RD RT E => ?_), r2, plain_app hw⟩
    have lo := E.run lo
    have lo : R (ACode.loop [0, 1, 5, 6] M.b102_0) [(0, [.sc (.ptr i 0 3)]), (1, [.sc (.ptr p 0 15)]), (5, [.sc (.int .u64 n)]), (6, [.sc (.int .u64 0)])] h1 = _ := lo
    clear r2 t2 rf sf r1 t1 s1
    simp [M.a102, E.eqs, q1, lo]
end

/-- what the document does for a kind -/
def innerM : ACode := cthen (sqh (sqd 8 M.a49.body))
/-- what stays in the slots -/
structure IS (e : Env) (i p : Nat) (v2 : TV) (o : List UInt8) : Prop where
  s2 : e.get 2 = v2
  s6 : e.get 6 = [.sc (.ptr i 0 3)]
  s7 : e.get 7 = [.sc (.ptr p 0 15)]
  s8 : e.get 8 = [.sc (.str o)]
abbrev envI (i p : Nat) (v2 : TV) (o : List UInt8) : Env := [(2, v2), (6, [.sc (.ptr i 0 3)]), (7, [.sc (.ptr p 0 15)]), (8, [.sc (.str o)])]
theorem IS.of (i p : Nat) (v2 : TV) (o : List UInt8) : IS (envI i p v2 o) i p v2 o := ⟨rfl, rfl, rfl, rfl⟩

section
variable {N : Nat} {hB h : Heap} {i : Nat} {x : SV} {l : List UInt8} {p : Nat} {m : Ms} {xe xd : SV} {s : Sm} {e : Env} {v2 : TV} {k : Int}

/-- a piece of it: from a state of a message to the next -/
def IStep (N : Nat) (hB h : Heap) (i : Nat) (x : SV) (l : List UInt8) (p : Nat) (v2 : TV) (o : List UInt8) (n : Nat) (e : Env) (s' : Sm) (es : List (En × SV)) : Prop :=
  ∃ (h' : Heap) (m' : Ms) (xe' xd' : SV) (e' : Env), runE F O (sqh (sqd n innerM)) e h = some (.normal, e', h') ∧ IS e' i p v2 o ∧ RM N hB h' i x l p m' xe' xd' s'.a s'.bad ∧ m'.plain = s'.m ∧ m'.es = es

theorem cellsL (m : Ms) (u v : SV) : (m.cells u v).length = 15 := rfl

theorem in3 (is : IS e i p v2 (ofM k)) (r : RM N hB h i x l p m xe xd s.a s.bad) (hm : m.plain = s.m) (he : s.err = 0) (h0 : s.m.index = 0) : IStep N hB h i x l p v2 (ofM k) 3 e (optR l k 1 s) m.es := by
  obtain ⟨s2, s6, s7, s8⟩ := is
  obtain ⟨sm, a, bad, err⟩ := s
  simp only at r hm he h0
  subst he
  obtain ⟨g, q, st⟩ := spec101 r.rd (f := ofM k) (w := m_index) (len_o k) (most := 72057594037927935) (by omega)
  rw [hasM_index] at q st
  have z1 : ((72057594037927935 : Nat) : Int) = 72057594037927935 := rfl
  rw [z1] at q
  have hopt : optR l k 1 ⟨sm, a, bad, 0⟩ = ⟨{ sm with index := (if flM k 1 then rNum l a bad 72057594037927935 else (0, a, bad)).1 }, (if flM k 1 then rNum l a bad 72057594037927935 else (0, a, bad)).2.1, (if flM k 1 then rNum l a bad 72057594037927935 else (0, a, bad)).2.2, 0⟩ := by
    unfold optR
    cases flM k 1
    · simp only [Bool.false_eq_true, if_false]
      cases sm
      simp only at h0
      simp [h0]
    · rfl
  rw [hopt]
  have hlt : (if flM k 1 then rNum l a bad 72057594037927935 else (0, a, bad)).1 < 18446744073709551616 := by
    cases flM k 1
    · simp
    · exact (rNum_lt l a bad 72057594037927935).1
  generalize (if flM k 1 then rNum l a bad 72057594037927935 else (0, a, bad)) = D at *
  obtain ⟨n, a1, b1⟩ := D
  simp only at q st hlt ⊢
  skip
  skip
  have c1 := r.cell st.mod
  obtain ⟨r1, t1⟩ := r.numU (m' := { m with index := n }) st rfl rfl ⟨r.num.term, hlt, r.num.lt, r.num.cm, r.num.bi, r.num.bt, r.num.off⟩
  have fl := fld_cell c1 (cellsL _ _ _) 0 4
  have sto := put_cell c1 (cellsL _ _ _) (k := 4) (by omega) (.int .u64 n)
  have e1 : (m.cells xe xd).set 4 (.int .u64 n) = ({ m with index := n } : Ms).cells xe xd := rfl
  rw [e1] at sto
  refine ⟨_, _, xe, xd, envI i p v2 (ofM k), runM fun R RO RD RT E => ?_, IS.of _ _ _ _, r1, by rw [← hm]; rfl, rfl⟩
  clear r1 t1 st c1 e1
  generalize ofM k = o at *
  generalize ({ m with index := n } : Ms).cells xe xd = C2 at *
  simp [innerM, M.a49, sqd, sqh, cthen, E.eqs, s2, s6, s7, s8, q, fl, sto]

theorem in4 (is : IS e i p v2 (ofM k)) (r : RM N hB h i x l p m xe xd s.a s.bad) (hm : m.plain = s.m) (he : s.err = 0) (h0 : s.m.lt = 0) : IStep N hB h i x l p v2 (ofM k) 4 e (optR l k 2 s) m.es := by
  obtain ⟨s2, s6, s7, s8⟩ := is
  obtain ⟨sm, a, bad, err⟩ := s
  simp only at r hm he h0
  subst he
  obtain ⟨g, q, st⟩ := spec101 r.rd (f := ofM k) (w := m_logterm) (len_o k) (most := 72057594037927935) (by omega)
  rw [hasM_logterm] at q st
  have z1 : ((72057594037927935 : Nat) : Int) = 72057594037927935 := rfl
  rw [z1] at q
  have hopt : optR l k 2 ⟨sm, a, bad, 0⟩ = ⟨{ sm with lt := (if flM k 2 then rNum l a bad 72057594037927935 else (0, a, bad)).1 }, (if flM k 2 then rNum l a bad 72057594037927935 else (0, a, bad)).2.1, (if flM k 2 then rNum l a bad 72057594037927935 else (0, a, bad)).2.2, 0⟩ := by
    unfold optR
    cases flM k 2
    · simp only [Bool.false_eq_true, if_false]
      cases sm
      simp only at h0
      simp [h0]
    · rfl
  rw [hopt]
  have hlt : (if flM k 2 then rNum l a bad 72057594037927935 else (0, a, bad)).1 < 18446744073709551616 := by
    cases flM k 2
    · simp
    · exact (rNum_lt l a bad 72057594037927935).1
  generalize (if flM k 2 then rNum l a bad 72057594037927935 else (0, a, bad)) = D at *
  obtain ⟨n, a1, b1⟩ := D
  simp only at q st hlt ⊢
  skip
  skip
  have c1 := r.cell st.mod
  obtain ⟨r1, t1⟩ := r.numU (m' := { m with lt := n }) st rfl rfl ⟨r.num.term, r.num.index, hlt, r.num.cm, r.num.bi, r.num.bt, r.num.off⟩
  have fl := fld_cell c1 (cellsL _ _ _) 0 5
  have sto := put_cell c1 (cellsL _ _ _) (k := 5) (by omega) (.int .u64 n)
  have e1 : (m.cells xe xd).set 5 (.int .u64 n) = ({ m with lt := n } : Ms).cells xe xd := rfl
  rw [e1] at sto
  refine ⟨_, _, xe, xd, envI i p v2 (ofM k), runM fun R RO RD RT E => ?_, IS.of _ _ _ _, r1, by rw [← hm]; rfl, rfl⟩
  clear r1 t1 st c1 e1
  generalize ofM k = o at *
  generalize ({ m with lt := n } : Ms).cells xe xd = C2 at *
  simp [innerM, M.a49, sqd, sqh, cthen, E.eqs, s2, s6, s7, s8, q, fl, sto]

theorem in5 (is : IS e i p v2 (ofM k)) (r : RM N hB h i x l p m xe xd s.a s.bad) (hm : m.plain = s.m) (he : s.err = 0) (h0 : s.m.cm = 0) : IStep N hB h i x l p v2 (ofM k) 5 e (optR l k 3 s) m.es := by
  obtain ⟨s2, s6, s7, s8⟩ := is
  obtain ⟨sm, a, bad, err⟩ := s
  simp only at r hm he h0
  subst he
  obtain ⟨g, q, st⟩ := spec101 r.rd (f := ofM k) (w := m_commit) (len_o k) (most := 72057594037927935) (by omega)
  rw [hasM_commit] at q st
  have z1 : ((72057594037927935 : Nat) : Int) = 72057594037927935 := rfl
  rw [z1] at q
  have hopt : optR l k 3 ⟨sm, a, bad, 0⟩ = ⟨{ sm with cm := (if flM k 3 then rNum l a bad 72057594037927935 else (0, a, bad)).1 }, (if flM k 3 then rNum l a bad 72057594037927935 else (0, a, bad)).2.1, (if flM k 3 then rNum l a bad 72057594037927935 else (0, a, bad)).2.2, 0⟩ := by
    unfold optR
    cases flM k 3
    · simp only [Bool.false_eq_true, if_false]
      cases sm
      simp only at h0
      simp [h0]
    · rfl
  rw [hopt]
  have hlt : (if flM k 3 then rNum l a bad 72057594037927935 else (0, a, bad)).1 < 18446744073709551616 := by
    cases flM k 3
    · simp
    · exact (rNum_lt l a bad 72057594037927935).1
  generalize (if flM k 3 then rNum l a bad 72057594037927935 else (0, a, bad)) = D at *
  obtain ⟨n, a1, b1⟩ := D
  simp only at q st hlt ⊢
  skip
  skip
  have c1 := r.cell st.mod
  obtain ⟨r1, t1⟩ := r.numU (m' := { m with cm := n }) st rfl rfl ⟨r.num.term, r.num.index, r.num.lt, hlt, r.num.bi, r.num.bt, r.num.off⟩
  have fl := fld_cell c1 (cellsL _ _ _) 0 7
  have sto := put_cell c1 (cellsL _ _ _) (k := 7) (by omega) (.int .u64 n)
  have e1 : (m.cells xe xd).set 7 (.int .u64 n) = ({ m with cm := n } : Ms).cells xe xd := rfl
  rw [e1] at sto
  refine ⟨_, _, xe, xd, envI i p v2 (ofM k), runM fun R RO RD RT E => ?_, IS.of _ _ _ _, r1, by rw [← hm]; rfl, rfl⟩
  clear r1 t1 st c1 e1
  generalize ofM k = o at *
  generalize ({ m with cm := n } : Ms).cells xe xd = C2 at *
  simp [innerM, M.a49, sqd, sqh, cthen, E.eqs, s2, s6, s7, s8, q, fl, sto]

theorem in9 (is : IS e i p v2 (ofM k)) (r : RM N hB h i x l p m xe xd s.a s.bad) (hm : m.plain = s.m) (he : s.err = 0) (h0 : s.m.off = 0) : IStep N hB h i x l p v2 (ofM k) 9 e (optR l k 6 s) m.es := by
  obtain ⟨s2, s6, s7, s8⟩ := is
  obtain ⟨sm, a, bad, err⟩ := s
  simp only at r hm he h0
  subst he
  obtain ⟨g, q, st⟩ := spec101 r.rd (f := ofM k) (w := m_offset) (len_o k) (most := 32768) (by omega)
  rw [hasM_offset] at q st
  have z1 : ((32768 : Nat) : Int) = 32768 := rfl
  rw [z1] at q
  have hopt : optR l k 6 ⟨sm, a, bad, 0⟩ = ⟨{ sm with off := (((if flM k 6 then rNum l a bad 32768 else (0, a, bad)).1 : Nat) : Int) }, (if flM k 6 then rNum l a bad 32768 else (0, a, bad)).2.1, (if flM k 6 then rNum l a bad 32768 else (0, a, bad)).2.2, 0⟩ := by
    unfold optR
    cases flM k 6
    · simp only [Bool.false_eq_true, if_false]
      cases sm
      simp only at h0
      simp [h0]
    · rfl
  rw [hopt]
  have hlt : (0 : Int) ≤ ((if flM k 6 then rNum l a bad 32768 else (0, a, bad)).1 : Nat) ∧ (((if flM k 6 then rNum l a bad 32768 else (0, a, bad)).1 : Nat) : Int) ≤ 32768 := by
    cases flM k 6
    · simp
    · have := rNum_most l a bad 32768; simp only [if_true]; omega
  generalize (if flM k 6 then rNum l a bad 32768 else (0, a, bad)) = D at *
  obtain ⟨n, a1, b1⟩ := D
  simp only at q st hlt ⊢
  have hlt : -9223372036854775808 ≤ (n : Int) ∧ (n : Int) < 9223372036854775808 := by omega
  have wr : IntKind.i64.wrap (n : Int) = n := wi64 (by omega) (by omega)
  have c1 := r.cell st.mod
  obtain ⟨r1, t1⟩ := r.numU (m' := { m with off := (n : Int) }) st rfl rfl ⟨r.num.term, r.num.index, r.num.lt, r.num.cm, r.num.bi, r.num.bt, hlt⟩
  have fl := fld_cell c1 (cellsL _ _ _) 0 12
  have sto := put_cell c1 (cellsL _ _ _) (k := 12) (by omega) (.int .i64 (n : Int))
  have e1 : (m.cells xe xd).set 12 (.int .i64 (n : Int)) = ({ m with off := (n : Int) } : Ms).cells xe xd := rfl
  rw [e1] at sto
  refine ⟨_, _, xe, xd, envI i p v2 (ofM k), runM fun R RO RD RT E => ?_, IS.of _ _ _ _, r1, by rw [← hm]; rfl, rfl⟩
  clear r1 t1 st c1 e1
  generalize ofM k = o at *
  generalize ({ m with off := (n : Int) } : Ms).cells xe xd = C2 at *
  simp [innerM, M.a49, sqd, sqh, cthen, E.eqs, s2, s6, s7, s8, q, fl, sto, wr]

theorem in7 (is : IS e i p v2 (ofM k)) (r : RM N hB h i x l p m xe xd s.a s.bad) (hm : m.plain = s.m) (he : s.err = 0) : IStep N hB h i x l p v2 (ofM k) 7 e (optR l k 4 s) m.es := by
  obtain ⟨s2, s6, s7, s8⟩ := is
  obtain ⟨sm, a, bad, err⟩ := s
  simp only at r hm he
  subst he
  have qh := spec56 h (w := m_refused) (len_o k)
  rw [hasM_refused] at qh
  unfold optR
  cases hf : flM k 4
  · rw [hf] at qh
    simp only [Bool.false_eq_true, if_false]
    refine ⟨h, m, xe, xd, [(2, v2), (6, [.sc (.ptr i 0 3)]), (7, [.sc (.ptr p 0 15)]), (8, [.sc (.str (ofM k))]), (69, [.sc (.bool false)])], runM fun R RO RD RT E => ?_, ⟨rfl, rfl, rfl, rfl⟩, r, hm, rfl⟩
    generalize ofM k = o at *
    simp [innerM, M.a49, sqd, sqh, cthen, E.eqs, s2, s6, s7, s8, qh]
  · rw [hf] at qh
    simp only [if_true]
    have q := spec78 r.rd (most := 1) (by omega)
    have st := rByte_go r.rd 1
    have z1 : ((1 : Nat) : Int) = 1 := rfl
    rw [z1] at q
    simp only [rFld]
    generalize rByte l a bad 1 = D at *
    obtain ⟨n, a1, b1⟩ := D
    simp only at q st ⊢
    have c1 := r.cell st.mod
    obtain ⟨r1, t1⟩ := r.numU (m' := { m with rf := decide (n = 1) }) st rfl rfl ⟨r.num.term, r.num.index, r.num.lt, r.num.cm, r.num.bi, r.num.bt, r.num.off⟩
    have fl := fld_cell c1 (cellsL _ _ _) 0 8
    have sto := put_cell c1 (cellsL _ _ _) (k := 8) (by omega) (.bool (decide (n = 1)))
    have e1 : (m.cells xe xd).set 8 (.bool (decide (n = 1))) = ({ m with rf := decide (n = 1) } : Ms).cells xe xd := rfl
    rw [e1] at sto
    have ec : decide ((n : Int) = 1) = decide (n = 1) := by by_cases hn : n = 1 <;> simp [hn]; omega
    generalize setR h i x a1 b1 = g at *
    refine ⟨_, _, xe, xd, envI i p v2 (ofM k), runM fun R RO RD RT E => ?_, IS.of _ _ _ _, r1, by rw [← hm]; rfl, rfl⟩
    clear r1 t1 st c1 e1
    generalize ofM k = o at *
    generalize ({ m with rf := decide (n = 1) } : Ms).cells xe xd = C2 at *
    generalize decide (n = 1) = dn at *
    simp [innerM, M.a49, sqd, sqh, cthen, E.eqs, s2, s6, s7, s8, qh, q, fl, ec, sto]

theorem in10 (is : IS e i p v2 (ofM k)) (r : RM N hB h i x l p m xe xd s.a s.bad) (hm : m.plain = s.m) (he : s.err = 0) : IStep N hB h i x l p v2 (ofM k) 10 e (optR l k 7 s) m.es := by
  obtain ⟨s2, s6, s7, s8⟩ := is
  obtain ⟨sm, a, bad, err⟩ := s
  simp only at r hm he
  subst he
  have qh := spec56 h (w := m_last) (len_o k)
  rw [hasM_last] at qh
  unfold optR
  cases hf : flM k 7
  · rw [hf] at qh
    simp only [Bool.false_eq_true, if_false]
    refine ⟨h, m, xe, xd, [(2, v2), (6, [.sc (.ptr i 0 3)]), (7, [.sc (.ptr p 0 15)]), (8, [.sc (.str (ofM k))]), (95, [.sc (.bool false)])], runM fun R RO RD RT E => ?_, ⟨rfl, rfl, rfl, rfl⟩, r, hm, rfl⟩
    generalize ofM k = o at *
    simp [innerM, M.a49, sqd, sqh, cthen, E.eqs, s2, s6, s7, s8, qh]
  · rw [hf] at qh
    simp only [if_true]
    have q := spec78 r.rd (most := 1) (by omega)
    have st := rByte_go r.rd 1
    have z1 : ((1 : Nat) : Int) = 1 := rfl
    rw [z1] at q
    simp only [rFld]
    generalize rByte l a bad 1 = D at *
    obtain ⟨n, a1, b1⟩ := D
    simp only at q st ⊢
    have c1 := r.cell st.mod
    obtain ⟨r1, t1⟩ := r.numU (m' := { m with la := decide (n = 1) }) st rfl rfl ⟨r.num.term, r.num.index, r.num.lt, r.num.cm, r.num.bi, r.num.bt, r.num.off⟩
    have fl := fld_cell c1 (cellsL _ _ _) 0 14
    have sto := put_cell c1 (cellsL _ _ _) (k := 14) (by omega) (.bool (decide (n = 1)))
    have e1 : (m.cells xe xd).set 14 (.bool (decide (n = 1))) = ({ m with la := decide (n = 1) } : Ms).cells xe xd := rfl
    rw [e1] at sto
    have ec : decide ((n : Int) = 1) = decide (n = 1) := by by_cases hn : n = 1 <;> simp [hn]; omega
    generalize setR h i x a1 b1 = g at *
    refine ⟨_, _, xe, xd, envI i p v2 (ofM k), runM fun R RO RD RT E => ?_, IS.of _ _ _ _, r1, by rw [← hm]; rfl, rfl⟩
    clear r1 t1 st c1 e1
    generalize ofM k = o at *
    generalize ({ m with la := decide (n = 1) } : Ms).cells xe xd = C2 at *
    generalize decide (n = 1) = dn at *
    simp [innerM, M.a49, sqd, sqh, cthen, E.eqs, s2, s6, s7, s8, qh, q, fl, ec, sto]

theorem in8 (is : IS e i p v2 (ofM k)) (r : RM N hB h i x l p m xe xd s.a s.bad) (hm : m.plain = s.m) (he : s.err = 0) : IStep N hB h i x l p v2 (ofM k) 8 e (optR l k 5 s) m.es := by
  obtain ⟨s2, s6, s7, s8⟩ := is
  obtain ⟨sm, a, bad, err⟩ := s
  simp only at r hm he
  subst he
  have qh := spec56 h (w := m_base) (len_o k)
  rw [hasM_base] at qh
  unfold optR
  cases hf : flM k 5
  · rw [hf] at qh
    simp only [Bool.false_eq_true, if_false]
    refine ⟨h, m, xe, xd, [(2, v2), (6, [.sc (.ptr i 0 3)]), (7, [.sc (.ptr p 0 15)]), (8, [.sc (.str (ofM k))]), (75, [.sc (.bool false)])], runM fun R RO RD RT E => ?_, ⟨rfl, rfl, rfl, rfl⟩, r, hm, rfl⟩
    generalize ofM k = o at *
    simp [innerM, M.a49, sqd, sqh, cthen, E.eqs, s2, s6, s7, s8, qh]
  · rw [hf] at qh
    simp only [if_true]
    have z1 : ((72057594037927935 : Nat) : Int) = 72057594037927935 := rfl
    have z2 : ((254 : Nat) : Int) = 254 := rfl
    have q1 := spec79 r.rd (most := 72057594037927935) (by omega)
    have t1 := rNum_go r.rd 72057594037927935
    have lt1 := (rNum_lt l a bad 72057594037927935).1
    rw [z1] at q1
    simp only [rFld]
    generalize rNum l a bad 72057594037927935 = D1 at *
    obtain ⟨n1, a1, b1⟩ := D1
    simp only at q1 t1 lt1 ⊢
    have c1 := r.cell t1.mod
    obtain ⟨r1, _⟩ := r.numU (m' := { m with bi := n1 }) t1 rfl rfl ⟨r.num.term, r.num.index, r.num.lt, r.num.cm, lt1, r.num.bt, r.num.off⟩
    have fa1 := fld_cell c1 (cellsL _ _ _) 0 9
    have fb1 := fld_cell c1 (cellsL _ _ _) 9 0
    have st1 := put_cell c1 (cellsL _ _ _) (k := 9) (by omega) (.int .u64 n1)
    have e1 : (m.cells xe xd).set 9 (.int .u64 n1) = ({ m with bi := n1 } : Ms).cells xe xd := rfl
    rw [e1] at st1
    generalize setR h i x a1 b1 = g1 at *
    obtain ⟨g2, hg2⟩ : ∃ g2 : Heap, g2 = g1.set p ⟨.var, ({ m with bi := n1 } : Ms).cells xe xd⟩ := ⟨_, rfl⟩
    rw [← hg2] at r1 st1
    have q2 := spec79 r1.rd (most := 72057594037927935) (by omega)
    have t2 := rNum_go r1.rd 72057594037927935
    have lt2 := (rNum_lt l a1 b1 72057594037927935).1
    rw [z1] at q2
    generalize rNum l a1 b1 72057594037927935 = D2 at *
    obtain ⟨n2, a2, b2⟩ := D2
    simp only at q2 t2 lt2 ⊢
    have c2 := r1.cell t2.mod
    obtain ⟨r2, _⟩ := r1.numU (m' := { m with bi := n1, bt := n2 }) t2 rfl rfl ⟨r.num.term, r.num.index, r.num.lt, r.num.cm, lt1, lt2, r.num.off⟩
    have fa2 := fld_cell c2 (cellsL _ _ _) 0 9
    have fb2 := fld_cell c2 (cellsL _ _ _) 9 1
    have st2 := put_cell c2 (cellsL _ _ _) (k := 10) (by omega) (.int .u64 n2)
    have e2 : (({ m with bi := n1 } : Ms).cells xe xd).set 10 (.int .u64 n2) = ({ m with bi := n1, bt := n2 } : Ms).cells xe xd := rfl
    rw [e2] at st2
    generalize setR g2 i x a2 b2 = g3 at *
    obtain ⟨g4, hg4⟩ : ∃ g4 : Heap, g4 = g3.set p ⟨.var, ({ m with bi := n1, bt := n2 } : Ms).cells xe xd⟩ := ⟨_, rfl⟩
    rw [← hg4] at r2 st2
    have q3 := spec78 r2.rd (most := 254) (by omega)
    have t3 := rByte_go r2.rd 254
    have lt3 := (rByte_lt l a2 b2 254).2.2
    rw [z2] at q3
    generalize rByte l a2 b2 254 = D3 at *
    obtain ⟨n3, a3, b3⟩ := D3
    simp only at q3 t3 lt3 ⊢
    have c3 := r2.cell t3.mod
    obtain ⟨r3, _⟩ := r2.numU (m' := { m with bi := n1, bt := n2, bc := (n3 : Int) }) t3 rfl rfl ⟨r.num.term, r.num.index, r.num.lt, r.num.cm, lt1, lt2, r.num.off⟩
    have fa3 := fld_cell c3 (cellsL _ _ _) 0 9
    have fb3 := fld_cell c3 (cellsL _ _ _) 9 2
    have st3 := put_cell c3 (cellsL _ _ _) (k := 11) (by omega) (.int .i64 n3)
    have e3 : (({ m with bi := n1, bt := n2 } : Ms).cells xe xd).set 11 (.int .i64 n3) = ({ m with bi := n1, bt := n2, bc := (n3 : Int) } : Ms).cells xe xd := rfl
    rw [e3] at st3
    generalize setR g4 i x a3 b3 = g5 at *
    obtain ⟨g6, hg6⟩ : ∃ g6 : Heap, g6 = g5.set p ⟨.var, ({ m with bi := n1, bt := n2, bc := (n3 : Int) } : Ms).cells xe xd⟩ := ⟨_, rfl⟩
    rw [← hg6] at r3 st3
    have wr := wi64n lt3
    refine ⟨g6, _, xe, xd, envI i p v2 (ofM k), runM fun R RO RD RT E => ?_, IS.of _ _ _ _, r3, by rw [← hm]; rfl, rfl⟩
    clear r r1 r2 r3 t1 t2 t3 hg2 hg4 hg6 c1 c2 c3
    generalize ofM k = o at *
    simp [innerM, M.a49, sqd, sqh, cthen, E.eqs, s2, s6, s7, s8, qh, q1, q2, q3, fa1, fa2, fa3, fb1, fb2, fb3, st1, st2, st3, wr]

theorem in11 (is : IS e i p v2 (ofM k)) (r : RM N hB h i x l p m xe xd s.a s.bad) (hm : m.plain = s.m) (he : s.err = 0) : ∃ (h' : Heap) (m' : Ms) (xe' xd' : SV) (e' : Env), runE F O (sqd 11 innerM) e h = some (.normal, e', h') ∧ e'.get 2 = v2 ∧ e'.get 6 = [.sc (.ptr i 0 3)] ∧ e'.get 7 = [.sc (.ptr p 0 15)] ∧ RM N hB h' i x l p m' xe' xd' (optR l k 8 s).a (optR l k 8 s).bad ∧ m'.plain = (optR l k 8 s).m := by
  obtain ⟨s2, s6, s7, s8⟩ := is
  obtain ⟨sm, a, bad, err⟩ := s
  simp only at r hm he
  subst he
  have qh := spec56 h (w := m_data) (len_o k)
  rw [hasM_data] at qh
  unfold optR
  cases hf : flM k 8
  · rw [hf] at qh
    simp only [Bool.false_eq_true, if_false]
    refine ⟨h, m, xe, xd, [(2, v2), (6, [.sc (.ptr i 0 3)]), (7, [.sc (.ptr p 0 15)]), (101, [.sc (.bool false)])], runM fun R RO RD RT E => ?_, rfl, rfl, rfl, r, hm⟩
    generalize ofM k = o at *
    simp [innerM, M.a49, sqd, sqh, cthen, E.eqs, s2, s6, s7, s8, qh]
  · rw [hf] at qh
    simp only [if_true]
    obtain ⟨g, y, q, t⟩ := spec96 r.rd (most := 256) (by omega) (by omega)
    have hmo := rText_most l a bad 256
    have z1 : ((256 : Nat) : Int) = 256 := rfl
    rw [z1] at hmo
    simp only [rFld]
    generalize rText l a bad 256 = D at *
    obtain ⟨T, a1, b1⟩ := D
    simp only at t hmo ⊢
    have c1 := r.cell t.mod
    obtain ⟨r1, _⟩ := r.upd (m' := { m with D := T }) t.mod t.rd rfl t.own (.inr t.new) ⟨r.num.term, r.num.index, r.num.lt, r.num.cm, r.num.bi, r.num.bt, r.num.off⟩ (by simp only; omega)
    have fl := fld_cell c1 (cellsL _ _ _) 0 13
    have st := put_cell c1 (cellsL _ _ _) (k := 13) (by omega) y
    have e1 : (m.cells xe xd).set 13 y = ({ m with D := T } : Ms).cells xe y := rfl
    rw [e1] at st
    refine ⟨_, _, xe, y, [(2, v2), (6, [.sc (.ptr i 0 3)]), (7, [.sc (.ptr p 0 15)])], runM fun R RO RD RT E => ?_, rfl, rfl, rfl, r1, by rw [← hm]; rfl⟩
    clear r1 t c1 e1
    generalize ({ m with D := T } : Ms).cells xe y = C2 at *
    generalize ofM k = o at *
    simp [innerM, M.a49, sqd, sqh, cthen, E.eqs, s2, s6, s7, s8, qh, q, fl, st]

/-- the entries: on, or away with an entry's own error -/
theorem in6 {hZ : Nat} {Z : List SV} (hv2 : v2 = [.sc (.ptr hZ 0 15)]) (zl : Z.length = 15) (hzz : Z = zC) (is : IS e i p v2 (ofM k)) (r : RM N hB h i x l p m xe xd s.a s.bad) (bz : hB[hZ]? = some ⟨.var, Z⟩) (hm : m.plain = s.m) (he : s.err = 0) (hes : m.es = []) :
    ∃ (h' : Heap) (m' : Ms) (xe' xd' : SV) (e' : Env), runE F O (sqh (sqd 6 innerM)) e h = some (if (optR l k 9 s).err = 0 then (.normal, e', h') else (.ret, [(2, v2), (3, [.sc (.int .i64 ((optR l k 9 s).err : Nat))])], h'.set hZ ⟨.var, Z⟩)) ∧ IS e' i p v2 (ofM k) ∧ RM N hB h' i x l p m' xe' xd' (optR l k 9 s).a (optR l k 9 s).bad ∧ m'.plain = (optR l k 9 s).m := by
  obtain ⟨s2, s6, s7, s8⟩ := is
  obtain ⟨sm, a, bad, err⟩ := s
  simp only at r hm he
  subst he
  have qh := spec56 h (w := m_entries) (len_o k)
  rw [hasM_entries] at qh
  unfold optR
  cases hf : flM k 9
  · rw [hf] at qh
    simp only [Bool.false_eq_true, if_false, if_true]
    refine ⟨h, m, xe, xd, [(2, v2), (6, [.sc (.ptr i 0 3)]), (7, [.sc (.ptr p 0 15)]), (8, [.sc (.str (ofM k))]), (61, [.sc (.bool false)])], runM fun R RO RD RT E => ?_, ⟨rfl, rfl, rfl, rfl⟩, r, hm⟩
    generalize ofM k = o at *
    simp [innerM, M.a49, sqd, sqh, cthen, E.eqs, s2, s6, s7, s8, qh]
  · rw [hf] at qh
    simp only [if_true]
    obtain ⟨h1, ws, xe1, q, r1, e1⟩ := spec102 r (by rw [hes]; simp)
    rw [hm] at q r1 e1
    generalize rFld l 9 ⟨sm, a, bad, 0⟩ = s' at *
    have bz1 := r1.mod.get bz fun h => h
    refine ⟨h1, _, xe1, xd, [(2, v2), (6, [.sc (.ptr i 0 3)]), (7, [.sc (.ptr p 0 15)]), (8, [.sc (.str (ofM k))]), (9, [.sc (.int .i64 (s'.err : Nat))]), (65, [.sc (.bool false)])], runM fun R RO RD RT E => ?_, ⟨rfl, rfl, rfl, rfl⟩, r1, e1⟩
    have zc : setCells Z 0 Z = Z := by have := setCells_whole Z Z [] rfl; simpa using this
    have sto : storeA h1 15 [.sc (.ptr hZ 0 15)] [.agg Z] = some ([], h1.set hZ ⟨.var, Z⟩) := by simp [storeA, bz1, zl, zc]
    subst hv2
    clear r r1 e1
    generalize s'.err = er at *
    generalize ofM k = o at *
    generalize h1.set hZ ⟨.var, Z⟩ = h2 at *
    by_cases h0 : er = 0
    · subst h0
      simp [innerM, M.a49, sqd, sqh, cthen, E.eqs, s2, s6, s7, s8, qh, q]
    · have h0' : ¬ (er : Int) = 0 := by omega
      rw [if_neg h0]
      simp [innerM, M.a49, sqd, sqh, cthen, E.eqs, s2, s6, s7, s8, qh, q, h0, h0', ← hzz, sto]
end
end Go.Proofs.Ytoghoddofokekaa
end

section
set_option linter.unusedVariables false
set_option linter.unusedSimpArgs false
set_option maxRecDepth 100000
namespace Go.Proofs.Ytoghoddofokekaa
open Go.Abs

section
variable {N : Nat} {hB h : Heap} {i : Nat} {x : SV} {l : List UInt8} {p : Nat} {m : Ms} {xe xd : SV} {s : Sm} {e : Env} {v2 : TV} {k : Int}

theorem in0 {a bad : Nat} (is : IS e i p v2 (ofM k)) (r : RM N hB h i x l p m xe xd a bad) : ∃ (h' : Heap) (e' : Env), runE F O (sqh (sqd 0 innerM)) e h = some (.normal, e', h') ∧ IS e' i p v2 (ofM k) ∧ RM N hB h' i x l p { m with f := ((rByte l a bad 7).1 : Int) } xe xd (rByte l a bad 7).2.1 (rByte l a bad 7).2.2 := by
  obtain ⟨s2, s6, s7, s8⟩ := is
  have q := spec78 r.rd (most := 7) (by omega)
  have st := rByte_go r.rd 7
  have hb := (rByte_lt l a bad 7).2.2
  have z1 : ((7 : Nat) : Int) = 7 := rfl
  rw [z1] at q
  generalize rByte l a bad 7 = D at *
  obtain ⟨n, a1, b1⟩ := D
  simp only at q st hb ⊢
  have wr := wi64n hb
  have c1 := r.cell st.mod
  obtain ⟨r1, t1⟩ := r.numU (m' := { m with f := (n : Int) }) st rfl rfl ⟨r.num.term, r.num.index, r.num.lt, r.num.cm, r.num.bi, r.num.bt, r.num.off⟩
  have fl := fld_cell c1 (cellsL _ _ _) 0 1
  have sto := put_cell c1 (cellsL _ _ _) (k := 1) (by omega) (.int .i64 n)
  have e1 : (m.cells xe xd).set 1 (.int .i64 n) = ({ m with f := (n : Int) } : Ms).cells xe xd := rfl
  rw [e1] at sto
  generalize setR h i x a1 b1 = g at *
  refine ⟨_, envI i p v2 (ofM k), runM fun R RO RD RT E => ?_, IS.of _ _ _ _, r1⟩
  clear r1 t1 st c1 e1
  generalize ofM k = o at *
  generalize ({ m with f := (n : Int) } : Ms).cells xe xd = C2 at *
  simp [innerM, M.a49, sqd, sqh, cthen, E.eqs, s2, s6, s7, s8, q, wr, fl, sto]
theorem in1 {a bad : Nat} (is : IS e i p v2 (ofM k)) (r : RM N hB h i x l p m xe xd a bad) : ∃ (h' : Heap) (e' : Env), runE F O (sqh (sqd 1 innerM)) e h = some (.normal, e', h') ∧ IS e' i p v2 (ofM k) ∧ RM N hB h' i x l p { m with t := ((rByte l a bad 7).1 : Int) } xe xd (rByte l a bad 7).2.1 (rByte l a bad 7).2.2 := by
  obtain ⟨s2, s6, s7, s8⟩ := is
  have q := spec78 r.rd (most := 7) (by omega)
  have st := rByte_go r.rd 7
  have hb := (rByte_lt l a bad 7).2.2
  have z1 : ((7 : Nat) : Int) = 7 := rfl
  rw [z1] at q
  generalize rByte l a bad 7 = D at *
  obtain ⟨n, a1, b1⟩ := D
  simp only at q st hb ⊢
  have wr := wi64n hb
  have c1 := r.cell st.mod
  obtain ⟨r1, t1⟩ := r.numU (m' := { m with t := (n : Int) }) st rfl rfl ⟨r.num.term, r.num.index, r.num.lt, r.num.cm, r.num.bi, r.num.bt, r.num.off⟩
  have fl := fld_cell c1 (cellsL _ _ _) 0 2
  have sto := put_cell c1 (cellsL _ _ _) (k := 2) (by omega) (.int .i64 n)
  have e1 : (m.cells xe xd).set 2 (.int .i64 n) = ({ m with t := (n : Int) } : Ms).cells xe xd := rfl
  rw [e1] at sto
  generalize setR h i x a1 b1 = g at *
  refine ⟨_, envI i p v2 (ofM k), runM fun R RO RD RT E => ?_, IS.of _ _ _ _, r1⟩
  clear r1 t1 st c1 e1
  generalize ofM k = o at *
  generalize ({ m with t := (n : Int) } : Ms).cells xe xd = C2 at *
  simp [innerM, M.a49, sqd, sqh, cthen, E.eqs, s2, s6, s7, s8, q, wr, fl, sto]
theorem in2 {a bad : Nat} (is : IS e i p v2 (ofM k)) (r : RM N hB h i x l p m xe xd a bad) : ∃ (h' : Heap) (e' : Env), runE F O (sqh (sqd 2 innerM)) e h = some (.normal, e', h') ∧ IS e' i p v2 (ofM k) ∧ RM N hB h' i x l p (rFld l 0 ⟨m, a, bad, 0⟩).m xe xd (rFld l 0 ⟨m, a, bad, 0⟩).a (rFld l 0 ⟨m, a, bad, 0⟩).bad := by
  obtain ⟨s2, s6, s7, s8⟩ := is
  have q := spec79 r.rd (most := 72057594037927935) (by omega)
  have st := rNum_go r.rd 72057594037927935
  have hlt := (rNum_lt l a bad 72057594037927935).1
  have z1 : ((72057594037927935 : Nat) : Int) = 72057594037927935 := rfl
  rw [z1] at q
  simp only [rFld]
  generalize rNum l a bad 72057594037927935 = D at *
  obtain ⟨n, a1, b1⟩ := D
  simp only at q st hlt ⊢
  have c1 := r.cell st.mod
  obtain ⟨r1, t1⟩ := r.numU (m' := { m with term := n }) st rfl rfl ⟨hlt, r.num.index, r.num.lt, r.num.cm, r.num.bi, r.num.bt, r.num.off⟩
  have fl := fld_cell c1 (cellsL _ _ _) 0 3
  have sto := put_cell c1 (cellsL _ _ _) (k := 3) (by omega) (.int .u64 n)
  have e1 : (m.cells xe xd).set 3 (.int .u64 n) = ({ m with term := n } : Ms).cells xe xd := rfl
  rw [e1] at sto
  generalize setR h i x a1 b1 = g at *
  refine ⟨_, envI i p v2 (ofM k), runM fun R RO RD RT E => ?_, IS.of _ _ _ _, r1⟩
  clear r1 t1 st c1 e1
  generalize ofM k = o at *
  generalize ({ m with term := n } : Ms).cells xe xd = C2 at *
  simp [innerM, M.a49, sqd, sqh, cthen, E.eqs, s2, s6, s7, s8, q, fl, sto]

theorem optR_off {l : List UInt8} {k : Int} {j : Nat} (h : flM k j = false) (s : Sm) : optR l k j s = s := by unfold optR; rw [h]; rfl
theorem optR_err {l : List UInt8} {k : Int} {j : Nat} (hj : j < 9) {s : Sm} (he : s.err = 0) : (optR l k j s).err = 0 := by
  unfold optR
  split
  · exact rFld_err l hj s
  · exact he
/-- the document's order of the fields is the program's -/
theorem order_same (l : List UInt8) (k : Int) (t : Sm) (ht : t.err = 0) :
    ((optR l k 9 t).err = 0 → optR l k 8 (optR l k 7 (optR l k 6 (optR l k 5 (optR l k 4 (optR l k 9 t))))) = optR l k 9 (optR l k 8 (optR l k 7 (optR l k 6 (optR l k 5 (optR l k 4 t)))))) ∧
    ((optR l k 9 t).err ≠ 0 → optR l k 9 (optR l k 8 (optR l k 7 (optR l k 6 (optR l k 5 (optR l k 4 t))))) = optR l k 9 t) := by
  cases h9 : flM k 9
  · refine ⟨fun _ => by rw [optR_off h9, optR_off h9], fun h => ?_⟩
    rw [optR_off h9] at h
    exact absurd ht h
  · obtain ⟨h4, h5, h6, h7, h8⟩ := fl9 h9
    simp only [optR_off h4, optR_off h5, optR_off h6, optR_off h7, optR_off h8, implies_true, and_self]
theorem flM_zero (j : Nat) : flM 0 j = false := by unfold flM; rw [maskM_none (by omega)]; simp
theorem rFromM_zero (l : List UInt8) : ∀ (n j : Nat) (s : Sm), rFromM l 0 n j s = s
  | 0, j, s => rfl
  | n + 1, j, s => by
    unfold rFromM
    rw [optR_off (flM_zero j), rFromM_zero l n (j + 1)]

theorem head_mask {n : Nat} (hn : n ≠ 0) (h6 : n ≤ 6) : maskM (n : Int) ≠ 0 := by
  rcases kindsM (n : Int) with hk | hk | hk | hk | hk | hk | hk
  case inr.inr.inr.inr.inr.inr => omega
  all_goals rw [hk]; decide

set_option maxHeartbeats 1000000 in
theorem inner_runM {n1 a1 b1 hZ : Nat} {Z : List SV} (h6 : rByte l 0 0 6 = (n1, a1, b1)) (hn : n1 ≠ 0) (hle : n1 ≤ 6) (hv2 : v2 = [.sc (.ptr hZ 0 15)]) (zl : Z.length = 15) (hzz : Z = zC) (bz : hB[hZ]? = some ⟨.var, Z⟩)
    (r : RM N hB h i x l p { Ms.zero with k := (n1 : Int) } .nils .nils a1 b1) (is : IS e i p v2 (ofM n1)) :
    (∃ (h' : Heap) (m' : Ms) (xe' xd' : SV) (e' : Env), runE F O innerM e h = some (.normal, e', h') ∧ e'.get 2 = v2 ∧ e'.get 6 = [.sc (.ptr i 0 3)] ∧ e'.get 7 = [.sc (.ptr p 0 15)] ∧ RM N hB h' i x l p m' xe' xd' (rBody l).a (rBody l).bad ∧ m'.plain = (rBody l).m ∧ (rBody l).err = 0) ∨
    ∃ h' : Heap, runE F O innerM e h = some (.ret, [(2, v2), (3, [.sc (.int .i64 ((rBody l).err : Nat))])], h'.set hZ ⟨.var, Z⟩) ∧ (rBody l).err ≠ 0 ∧ Mod (fun _ => False) hB h' := by
  have E := mach F O
  obtain ⟨g0, e0, q0, i0, r0⟩ := in0 is r
  obtain ⟨g1, e1, q1, i1, r1⟩ := in1 i0 r0
  obtain ⟨g2, e2, q2, i2, r2⟩ := in2 i1 r1
  obtain ⟨s0, hs0⟩ : ∃ s0, s0 = rHead l := ⟨_, rfl⟩
  have hd : s0 = ⟨{ Ms.zero with k := (n1 : Int), f := ((rByte l a1 b1 7).1 : Int), t := ((rByte l (rByte l a1 b1 7).2.1 (rByte l a1 b1 7).2.2 7).1 : Int) }, (rByte l (rByte l a1 b1 7).2.1 (rByte l a1 b1 7).2.2 7).2.1, (rByte l (rByte l a1 b1 7).2.1 (rByte l a1 b1 7).2.2 7).2.2, 0⟩ := by
    rw [hs0]
    unfold rHead
    rw [h6]
    simp only
    rw [if_neg hn]
  have hk : s0.m.k = n1 := by rw [hd]
  obtain ⟨t1, ht1⟩ : ∃ t1, t1 = optR l n1 0 s0 := ⟨_, rfl⟩
  have h1 : t1 = rFld l 0 s0 := by rw [ht1]; unfold optR; rw [flM0 (head_mask hn hle)]; rfl
  have r2 : RM N hB g2 i x l p t1.m .nils .nils t1.a t1.bad := by rw [h1, hd]; exact r2
  have p1 : t1.m.plain = t1.m := by rw [h1, hd]; rfl
  have z1 : t1.m.index = 0 ∧ t1.m.lt = 0 ∧ t1.m.cm = 0 ∧ t1.m.off = 0 ∧ t1.err = 0 ∧ t1.m.es = [] := by rw [h1, hd]; exact ⟨rfl, rfl, rfl, rfl, rfl, rfl⟩
  obtain ⟨z11, z12, z13, z14, z15, z16⟩ := z1
  have hB0 : rBody l = optR l n1 9 (optR l n1 8 (optR l n1 7 (optR l n1 6 (optR l n1 5 (optR l n1 4 (optR l n1 3 (optR l n1 2 (optR l n1 1 t1)))))))) := by
    unfold rBody
    rw [← hs0, hk, ht1]
    rfl
  clear ht1 h1 hd hk hs0 s0 r r0 r1
  have k1 : ∀ s : Sm, (optR l n1 1 s).m.lt = s.m.lt ∧ (optR l n1 1 s).m.cm = s.m.cm ∧ (optR l n1 1 s).m.off = s.m.off := fun s => by unfold optR; split <;> exact ⟨rfl, rfl, rfl⟩
  have k2 : ∀ s : Sm, (optR l n1 2 s).m.cm = s.m.cm ∧ (optR l n1 2 s).m.off = s.m.off := fun s => by unfold optR; split <;> exact ⟨rfl, rfl⟩
  have k3 : ∀ s : Sm, (optR l n1 3 s).m.off = s.m.off := fun s => by unfold optR; split <;> rfl
  have k9 : ∀ s : Sm, (optR l n1 9 s).m.off = s.m.off := fun s => by unfold optR; split <;> rfl
  have k4 : ∀ s : Sm, (optR l n1 4 s).m.off = s.m.off := fun s => by unfold optR; split <;> rfl
  have k5 : ∀ s : Sm, (optR l n1 5 s).m.off = s.m.off := fun s => by unfold optR; split <;> rfl
  obtain ⟨g3, m3, xe3, xd3, e3, q3, i3, r3, p3, es3⟩ := in3 i2 r2 p1 z15 z11
  have z3 := optR_err (l := l) (k := n1) (j := 1) (by omega) z15
  obtain ⟨g4, m4, xe4, xd4, e4, q4, i4, r4, p4, es4⟩ := in4 i3 r3 p3 z3 (by rw [(k1 _).1]; exact z12)
  have z4 := optR_err (l := l) (k := n1) (j := 2) (by omega) z3
  obtain ⟨g5, m5, xe5, xd5, e5, q5, i5, r5, p5, es5⟩ := in5 i4 r4 p4 z4 (by rw [(k2 _).1, (k1 _).2.1]; exact z13)
  have z5 := optR_err (l := l) (k := n1) (j := 3) (by omega) z4
  obtain ⟨t4, ht4⟩ : ∃ t4, t4 = optR l n1 3 (optR l n1 2 (optR l n1 1 t1)) := ⟨_, rfl⟩
  have ho4 : t4.m.off = 0 := by rw [ht4, k3, (k2 _).2, (k1 _).2.2]; exact z14
  rw [← ht4] at hB0 r5 p5 z5
  obtain ⟨g6, m6, xe6, xd6, e6, q6, i6, r6, p6⟩ := in6 hv2 zl hzz i5 r5 bz p5 z5 (by rw [es5, es4, es3, z16])
  obtain ⟨o1, o2⟩ := order_same l n1 t4 z5
  by_cases h0 : (optR l n1 9 t4).err = 0
  · left
    rw [if_pos h0] at q6
    obtain ⟨g7, m7, xe7, xd7, e7, q7, i7, r7, p7, _⟩ := in7 i6 r6 p6 h0
    have z7 := optR_err (l := l) (k := n1) (j := 4) (by omega) h0
    obtain ⟨g8, m8, xe8, xd8, e8, q8, i8, r8, p8, _⟩ := in8 i7 r7 p7 z7
    have z8 := optR_err (l := l) (k := n1) (j := 5) (by omega) z7
    obtain ⟨g9, m9, xe9, xd9, e9, q9, i9, r9, p9, _⟩ := in9 i8 r8 p8 z8 (by rw [k5, k4, k9]; exact ho4)
    have z9 := optR_err (l := l) (k := n1) (j := 6) (by omega) z8
    obtain ⟨g10, m10, xe10, xd10, e10, q10, i10, r10, p10, _⟩ := in10 i9 r9 p9 z9
    have z10 := optR_err (l := l) (k := n1) (j := 7) (by omega) z9
    obtain ⟨g11, m11, xe11, xd11, e11, q11, j2, j6, j7, r11, p11⟩ := in11 i10 r10 p10 z10
    have z11 := optR_err (l := l) (k := n1) (j := 8) (by omega) z10
    rw [o1 h0, ← hB0] at r11 p11 z11
    exact ⟨g11, m11, xe11, xd11, e11, seqM E q0 (seqM E q1 (seqM E q2 (seqM E q3 (seqM E q4 (seqM E q5 (seqM E q6 (seqM E q7 (seqM E q8 (seqM E q9 (seqM E q10 q11)))))))))), j2, j6, j7, r11, p11, z11⟩
  · right
    rw [if_neg h0] at q6
    have seqR : ∀ {a b : ACode} {e e' : Env} {h h' : Heap}, runE F O a e h = some (.ret, e', h') → runE F O (.seq a b) e h = some (.ret, e', h') := fun hp => by simp only [E.eqs, hp]
    rw [hB0, o2 h0]
    exact ⟨g6, seqM E q0 (seqM E q1 (seqM E q2 (seqM E q3 (seqM E q4 (seqM E q5 (seqR q6)))))), h0, r6.mod⟩
end
end Go.Proofs.Ytoghoddofokekaa
end

section
set_option linter.unusedVariables false
set_option linter.unusedSimpArgs false
set_option maxRecDepth 100000
namespace Go.Proofs.Ytoghoddofokekaa
open Go.Abs

set_option maxHeartbeats 2000000 in
theorem spec49 {h : Heap} {y : SV} {l : List UInt8} (hy : Row h y 1 l.length (Go.Abs.bytes l)) (hl : l.length ≤ 140737488353280) : ∃ h' m xe xd, call 49 [[.sc y]] h = some ([.agg (m.cells xe xd), .sc (.int .i64 (rMsg l).2)], h') ∧ m.plain = (rMsg l).1 ∧ FM h h' m xe xd := by
  obtain ⟨Z, hZ⟩ : ∃ Z : List SV, Z = zC := ⟨_, rfl⟩
  have zl : Z.length = 15 := by rw [hZ]; rfl
  have zc : ∀ c : List SV, c.length = 15 → setCells Z 0 c = c := fun c hc => by have := setCells_whole c Z [] (by rw [zl, hc]); simpa using this
  obtain ⟨H0, hH0⟩ : ∃ H0 : Heap, H0 = h ++ [⟨.var, Z⟩] := ⟨_, rfl⟩
  have mH0 : Mod (fun _ => False) h H0 := by rw [hH0]; exact Mod.app _ _ _
  have bH0 : H0[h.length]? = some ⟨.var, Z⟩ := by rw [hH0]; simp
  have lH0 : H0.length = h.length + 1 := by rw [hH0]; simp
  have hy0 := hy.mod mH0 fun _ _ h => h
  have ln := lenA_row hy0
  have stZ : ∀ {g : Heap} (c : List SV), g[h.length]? = some ⟨.var, Z⟩ → c.length = 15 → storeA g 15 [.sc (.ptr h.length 0 15)] [.agg c] = some ([], g.set h.length ⟨.var, c⟩) := fun c hg hc => by simp [storeA, hg, zl, hc, zc]
  have zz : Ms.zero.cells .nils .nils = Z := by rw [hZ]; rfl
  have res : ∀ {g : Heap} {c : List SV} {v : Int}, g[h.length]? = some ⟨.var, c⟩ → c.length = 15 → ∀ e : Env, e.get 2 = [.sc (.ptr h.length 0 15)] → e.get 3 = [.sc (.int .i64 v)] → resA e g M.a49.res = some [.agg c, .sc (.int .i64 v)] := fun hg hc e he2 he3 => by
    simp [M.a49, he2, he3, hg, hc, freshB, List.take_of_length_le (Nat.le_of_eq hc)]
  have out0 : ∀ {g : Heap} (v : Nat), Mod (fun _ => False) h g → g[h.length]? = some ⟨.var, Z⟩ → (∀ R RO RD RT, Mach F O R RO RD RT → R M.a49.body (envFrom 0 [[.sc y]]) h = some (.ret, [(2, [.sc (.ptr h.length 0 15)]), (3, [.sc (.int .i64 v)])], g.set h.length ⟨.var, Z⟩)) →
      ∃ h' m xe xd, call 49 [[.sc y]] h = some ([.agg (m.cells xe xd), .sc (.int .i64 v)], h') ∧ m.plain = Ms.zero ∧ FM h h' m xe xd := fun {g} v mg hg hr => by
    have m1 : Mod (fun j => j = h.length) g (g.set h.length ⟨.var, Z⟩) := Mod.set _ _ rfl
    have f := FM.zero (mg.trans m1 fun j hj e => by omega)
    refine ⟨_, Ms.zero, .nils, .nils, callX (hh := Go.Abs.trim h (g.set h.length ⟨.var, Z⟩) [.agg (Ms.zero.cells .nils .nils), .sc (.int .i64 v)]) rfl (by rfl : F 49 = some M.a49) (fun R RO RD RT E => ?_), rfl, f.trim _⟩
    rw [hr R RO RD RT E, Go.Abs.finA_ret, res (get_set_same hg) zl _ rfl rfl, zz]
  unfold rMsg
  by_cases hbig : 1024 < l.length
  · rw [if_pos hbig]
    have c1 : (1024 : Int) < l.length := by omega
    refine out0 12 mH0 bH0 fun R RO RD RT E => ?_
    have st := stZ Z bH0 zl
    generalize H0.set h.length ⟨.var, Z⟩ = H1 at *
    simp [M.a49, E.eqs, ← hZ, ← hH0, zl, ln, c1, st]
  rw [if_neg hbig]
  have c1 : ¬ (1024 : Int) < l.length := by omega
  obtain ⟨H1, z, qU, fU⟩ := spec100 hy0 hl
  have bH1 := fU.mod.get bH0 fun h => h
  have mH1 := mH0.trans fU.mod fun _ _ h => h
  have un := unE_lt l
  by_cases hu : unE l = 0
  case neg =>
    rw [if_pos hu]
    have hu' : ¬ ((unE l : Nat) : Int) = 0 := by omega
    refine out0 (unE l) mH1 bH1 fun R RO RD RT E => ?_
    have st := stZ Z bH1 zl
    generalize H1.set h.length ⟨.var, Z⟩ = H2 at *
    generalize unE l = ue at *
    simp [M.a49, E.eqs, ← hZ, ← hH0, zl, ln, c1, qU, hu, hu', st]
  rw [if_neg (by simp [hu])]
  rw [hu] at qU
  have hbl := unB_le l
  generalize unB l = b at *
  obtain ⟨H2, hH2⟩ : ∃ H2 : Heap, H2 = H1 ++ [⟨.var, [z, .int .i64 0, .int .i64 0]⟩] := ⟨_, rfl⟩
  have m12 : Mod (fun _ => False) H1 H2 := by rw [hH2]; exact Mod.app _ _ _
  have l12 : H2.length = H1.length + 1 := by rw [hH2]; simp
  have hzlt := fU.own.lt
  have r0 : Rd H2 H1.length z b 0 0 := ⟨by rw [hH2]; simp, fU.row.mod m12 fun _ _ h => h, fun hb => by have := hzlt _ hb; omega, by omega, by omega, by omega⟩
  obtain ⟨H3, hH3⟩ : ∃ H3 : Heap, H3 = H2 ++ [⟨.var, Z⟩] := ⟨_, rfl⟩
  have m23 : Mod (fun _ => False) H2 H3 := by rw [hH3]; exact Mod.app _ _ _
  have l23 : H3.length = H2.length + 1 := by rw [hH3]; simp
  have l01 : H0.length ≤ H1.length := fU.mod.1
  have rm0 : RM H3.length H0 H3 H1.length z b H2.length Ms.zero .nils .nils 0 0 :=
    ⟨r0.beside m23 (fun h => h) fun _ _ h => h, by rw [hH3, zz]; simp, by omega, fun hb => by have := hzlt _ hb; omega, by omega, by omega, fun j hj => by have := hzlt j hj; omega, Nat.le_refl _, .inl ⟨rfl, rfl, rfl⟩, fun _ h => h.elim, fun z hz => by simp [Ms.zero] at hz, .inl ⟨rfl, rfl, rfl⟩, fun _ h => h.elim, fun z hz => by simp [Ms.zero] at hz, zero_num,
      (fU.mod.trans m12 fun _ _ h => h).trans m23 fun _ _ h => h, by omega, by omega, by simp [Ms.zero], by simp [Ms.zero]⟩
  clear r0
  generalize hN : H3.length = N at *
  generalize hp : H2.length = p at *
  obtain ⟨i, hi⟩ : ∃ i, i = H1.length := ⟨_, rfl⟩
  rw [← hi] at rm0
  have z6 : ((6 : Nat) : Int) = 6 := rfl
  have q1 := spec78 rm0.rd (most := 6) (by omega)
  have s1 := rByte_go rm0.rd 6
  have hb1 := (rByte_lt b 0 0 6).2.2
  have hmo := rByte_most b 0 0 6
  rw [z6] at q1
  obtain ⟨D1, hD1⟩ : ∃ D1, rByte b 0 0 6 = D1 := ⟨_, rfl⟩
  rw [hD1] at q1 s1 hb1 hmo
  obtain ⟨n1, a1, b1⟩ := D1
  simp only at q1 s1 hb1 hmo
  have c3 := rm0.cell s1.mod
  obtain ⟨rm1, t1⟩ := rm0.numU (m' := { Ms.zero with k := (n1 : Int) }) s1 rfl rfl ⟨zero_num.term, zero_num.index, zero_num.lt, zero_num.cm, zero_num.bi, zero_num.bt, zero_num.off⟩
  have st1 := put_cell c3 (cellsL _ _ _) (k := 0) (by omega) (.int .i64 n1)
  have fl1 := fld_cell c3 (cellsL _ _ _) 0 0
  have e1 : (Ms.zero.cells .nils .nils).set 0 (.int .i64 n1) = ({ Ms.zero with k := (n1 : Int) } : Ms).cells .nils .nils := rfl
  rw [e1] at st1
  generalize setR H3 i z a1 b1 = g1 at *
  obtain ⟨H4, hH4⟩ : ∃ H4 : Heap, H4 = g1.set p ⟨.var, ({ Ms.zero with k := (n1 : Int) } : Ms).cells .nils .nils⟩ := ⟨_, rfl⟩
  rw [← hH4] at rm1 t1 st1
  have w1 := wi64n hb1
  have fl4 := fld_cell rm1.at_ (cellsL _ _ _) 0 0
  have ld4 := load_cell rm1.at_ (cellsL _ _ _) (k := 0) (v := .int .i64 n1) rfl
  have qo := spec54 H4 n1
  have top : ∀ R RO RD RT, Mach F O R RO RD RT → ∀ r, R (sqd 8 M.a49.body) (envI i p [.sc (.ptr h.length 0 15)] (ofM n1)) H4 = r → R M.a49.body (envFrom 0 [[.sc y]]) h = r := fun R RO RD RT E r hr => by
    clear rm0 rm1 t1 s1
    refine seqM E (e1 := [(0, [.sc y]), (2, [.sc (.ptr h.length 0 15)])]) (h1 := H0) ?_ (seqM E (e1 := [(0, [.sc y]), (2, [.sc (.ptr h.length 0 15)]), (13, [.sc (.bool false)])]) (h1 := H0) ?_ (seqM E (e1 := [(2, [.sc (.ptr h.length 0 15)]), (4, [.sc z]), (5, [.sc (.int .i64 0)])]) (h1 := H1) ?_ (seqM E (e1 := [(2, [.sc (.ptr h.length 0 15)]), (4, [.sc z]), (5, [.sc (.int .i64 0)]), (21, [.sc (.bool false)])]) (h1 := H1) ?_ (seqM E (e1 := [(2, [.sc (.ptr h.length 0 15)]), (6, [.sc (.ptr i 0 3)])]) (h1 := H2) ?_
      (seqM E (e1 := [(2, [.sc (.ptr h.length 0 15)]), (6, [.sc (.ptr i 0 3)]), (7, [.sc (.ptr p 0 15)])]) (h1 := H3) ?_ (seqM E (e1 := [(2, [.sc (.ptr h.length 0 15)]), (6, [.sc (.ptr i 0 3)]), (7, [.sc (.ptr p 0 15)])]) (h1 := H4) ?_ (seqM E ?_ hr)))))))
    · simp [E.eqs, ← hZ, ← hH0, zl]
    · simp [E.eqs, ln, c1]
    · simp [E.eqs, qU]
    · simp [E.eqs]
    · simp [E.eqs, ← hH2, hi]
    · simp [E.eqs, ← hZ, ← hH3, zl, hp]
    · simp [E.eqs, q1, w1, fl1, st1]
    · generalize ofM n1 = o at *
      simp [E.eqs, fl4, ld4, qo]
  -- behind what the kind has
  have mid : (∃ (H6 : Heap) (m6 : Ms) (xe6 xd6 : SV), RM N H0 H6 i z b p m6 xe6 xd6 (rBody b).a (rBody b).bad ∧ m6.plain = (rBody b).m ∧ (rBody b).err = 0 ∧ ∀ R RO RD RT, Mach F O R RO RD RT → ∃ e8 : Env, e8.get 2 = [.sc (.ptr h.length 0 15)] ∧ e8.get 6 = [.sc (.ptr i 0 3)] ∧ e8.get 7 = [.sc (.ptr p 0 15)] ∧ ∀ r, R (sqd 9 M.a49.body) e8 H6 = r → R M.a49.body (envFrom 0 [[.sc y]]) h = r) ∨
      ∃ H6 : Heap, (rBody b).err ≠ 0 ∧ Mod (fun _ => False) H0 H6 ∧ ∀ R RO RD RT, Mach F O R RO RD RT → R M.a49.body (envFrom 0 [[.sc y]]) h = some (.ret, [(2, [.sc (.ptr h.length 0 15)]), (3, [.sc (.int .i64 ((rBody b).err : Nat))])], H6.set h.length ⟨.var, Z⟩) := by
    by_cases hn : n1 = 0
    · left
      subst hn
      have hr : rBody b = ⟨{ Ms.zero with k := ((0 : Nat) : Int) }, a1, b1, 0⟩ := by
        have hh : rHead b = ⟨{ Ms.zero with k := ((0 : Nat) : Int) }, a1, b1, 0⟩ := by
          unfold rHead
          rw [hD1]
          rfl
        unfold rBody
        rw [hh]
        exact rFromM_zero b 10 0 _
      rw [hr]
      refine ⟨H4, _, .nils, .nils, rm1, rfl, rfl, fun R RO RD RT E => ⟨[(2, [.sc (.ptr h.length 0 15)]), (6, [.sc (.ptr i 0 3)]), (7, [.sc (.ptr p 0 15)]), (8, [.sc (.str (ofM ((0 : Nat) : Int)))]), (36, [.sc (.bool false)])], rfl, rfl, rfl, fun r hr => top R RO RD RT E r (seqM E ?_ hr)⟩⟩
      clear rm0 rm1 t1 s1 top
      have ld4 : loadA H4 false 1 [.sc (.ptr p 0 15)] = some ([.sc (.int .i64 0)], H4) := ld4
      generalize ofM ((0 : Nat) : Int) = o at *
      simp [E.eqs, fl4, ld4]
    · have hcond : ∀ R RO RD RT, Mach F O R RO RD RT → ∀ r, R innerM [(2, [.sc (.ptr h.length 0 15)]), (6, [.sc (.ptr i 0 3)]), (7, [.sc (.ptr p 0 15)]), (8, [.sc (.str (ofM n1))]), (36, [.sc (.bool true)])] H4 = r → R (sqh (sqd 8 M.a49.body)) (envI i p [.sc (.ptr h.length 0 15)] (ofM n1)) H4 = r := fun R RO RD RT E r hr => by
        refine seqM E (e1 := [(2, [.sc (.ptr h.length 0 15)]), (6, [.sc (.ptr i 0 3)]), (7, [.sc (.ptr p 0 15)]), (8, [.sc (.str (ofM n1))]), (36, [.sc (.bool true)])]) (h1 := H4) ?_ (condT E rfl hr)
        clear rm0 rm1 t1 s1 top hr
        have hpos : (0 : Int) < n1 := by omega
        have hpos' : 0 < n1 := by omega
        generalize ofM n1 = o at *
        simp [E.eqs, fl4, ld4, hpos, hpos']
      rcases inner_runM (v2 := [.sc (.ptr h.length 0 15)]) hD1 hn hmo rfl zl hZ bH0 rm1 (e := [(2, [.sc (.ptr h.length 0 15)]), (6, [.sc (.ptr i 0 3)]), (7, [.sc (.ptr p 0 15)]), (8, [.sc (.str (ofM n1))]), (36, [.sc (.bool true)])]) ⟨rfl, rfl, rfl, rfl⟩ with ⟨H6, m6, xe6, xd6, e8, q, k2, k6, k7, r6, p6, z6⟩ | ⟨H6, q, z6, m6⟩
      · exact .inl ⟨H6, m6, xe6, xd6, r6, p6, z6, fun R RO RD RT E => ⟨e8, k2, k6, k7, fun r hr => top R RO RD RT E r (seqM E (hcond R RO RD RT E _ (E.run q)) hr)⟩⟩
      · refine .inr ⟨H6, z6, m6, fun R RO RD RT E => top R RO RD RT E _ ?_⟩
        have seqR : ∀ {a b : ACode} {e e' : Env} {h h' : Heap}, R a e h = some (.ret, e', h') → R (.seq a b) e h = some (.ret, e', h') := fun hp => by simp only [E.eqs, hp]
        exact seqR (hcond R RO RD RT E _ (E.run q))
  clear rm0 rm1 top t1 s1
  have hE : ∀ s : Sm, s.err ≠ 0 → errS b s = s.err := fun s h => by unfold errS; rw [if_pos h]
  have hE0 : ∀ s : Sm, s.err = 0 → errS b s = rEnd b s.a s.bad := fun s h => by unfold errS; rw [if_neg (by simp [h])]
  rcases mid with ⟨H6, m6, xe6, xd6, rmF, hm6, z6, up⟩ | ⟨H6, z6, m6, run⟩
  · simp only
    rw [hE0 _ z6]
    have qE := spec81 rmF.rd
    have qR := spec25 rmF.at'
    have hR : rightM m6 = rightM (rBody b).m := rightM_plain (by rw [← hm6, Ms.plain_plain])
    rw [hR] at qR
    have bZ : H6[h.length]? = some ⟨.var, Z⟩ := rmF.mod.get bH0 fun h => h
    have mZ : Mod (fun _ => False) h H6 := mH0.trans rmF.mod fun _ _ h => h
    have cp := rmF.at_
    have ldP : loadA H6 true 15 [.sc (.ptr p 0 15)] = some ([.agg (m6.cells xe6 xd6)], H6) := by
      have hc := cellsL m6 xe6 xd6
      simp [loadA, cp, hc, List.take_of_length_le (Nat.le_of_eq hc)]
    have stz := stZ Z bZ zl
    have stm := stZ (m6.cells xe6 xd6) bZ (cellsL _ _ _)
    have dn := rmF.done (h := h) mH0 (by omega) ⟨.var, m6.cells xe6 xd6⟩
    generalize rEnd b (rBody b).a (rBody b).bad = er at *
    by_cases h0 : er = 0
    · subst h0
      cases hr : rightM (rBody b).m
      · have he : (if (0 = 0 ∧ false = false) then 11 else 0 : Nat) = 11 := rfl
        rw [he, if_neg (by omega)]
        rw [hr] at qR
        refine out0 11 mZ bZ fun R RO RD RT E => ?_
        obtain ⟨e8, k2, k6, k7, up⟩ := up R RO RD RT E
        clear rmF dn
        refine up _ ?_
        generalize H6.set h.length ⟨.var, Z⟩ = H7 at *
        generalize m6.cells xe6 xd6 = c6 at *
        simp [M.a49, sqd, E.eqs, k2, k6, k7, qE, ldP, qR, ← hZ, stz]
      · have he : (if (0 = 0 ∧ true = false) then 11 else 0 : Nat) = 0 := rfl
        rw [he, if_pos rfl]
        rw [hr] at qR
        refine ⟨_, m6, xe6, xd6, callX (hh := Go.Abs.trim h (H6.set h.length ⟨.var, m6.cells xe6 xd6⟩) [.agg (m6.cells xe6 xd6), .sc (.int .i64 ((0 : Nat) : Int))]) rfl (by rfl : F 49 = some M.a49) (fun R RO RD RT E => ?_), hm6, dn.trim _⟩
        obtain ⟨e8, k2, k6, k7, up⟩ := up R RO RD RT E
        have rs := res (v := ((0 : Nat) : Int)) (get_set_same (x := ⟨.var, m6.cells xe6 xd6⟩) bZ) (cellsL _ _ _)
        clear rmF dn
        refine (congrArg (finA h M.a49.res) (up (some (.ret, [(2, [.sc (.ptr h.length 0 15)]), (3, [.sc (.int .i64 0)])], H6.set h.length ⟨.var, m6.cells xe6 xd6⟩)) ?_)).trans ?_
        · generalize H6.set h.length ⟨.var, m6.cells xe6 xd6⟩ = H7 at *
          generalize m6.cells xe6 xd6 = c6 at *
          simp [M.a49, sqd, E.eqs, k2, k6, k7, qE, ldP, qR, stm]
        · rw [Go.Abs.finA_ret, rs _ rfl rfl]
    · have he : (if er = 0 ∧ rightM (rBody b).m = false then 11 else er) = er := if_neg fun h => h0 h.1
      rw [he, if_neg h0]
      have h0' : ¬ (er : Int) = 0 := by omega
      refine out0 er mZ bZ fun R RO RD RT E => ?_
      obtain ⟨e8, k2, k6, k7, up⟩ := up R RO RD RT E
      clear rmF dn
      refine up _ ?_
      generalize H6.set h.length ⟨.var, Z⟩ = H7 at *
      generalize m6.cells xe6 xd6 = c6 at *
      simp [M.a49, sqd, E.eqs, k2, k6, k7, qE, h0, h0', ← hZ, stz]
  · simp only
    rw [hE _ z6]
    have he : (if (rBody b).err = 0 ∧ rightM (rBody b).m = false then 11 else (rBody b).err) = (rBody b).err := if_neg fun h => z6 h.1
    rw [he, if_neg z6]
    exact out0 _ (mH0.trans m6 fun _ _ h => h) (m6.get bH0 fun h => h) run

theorem store_new (h : Heap) (m : Ms) (xe xd : SV) : storeA (h ++ [⟨.var, zC⟩]) 15 [.sc (.ptr h.length 0 15)] [.agg (m.cells xe xd)] = some ([], h ++ [⟨.var, m.cells xe xd⟩]) := by
  simp [storeA, Ms.cells]
theorem load15 {g : Heap} {p : Nat} {m : Ms} {xe xd : SV} (hg : g[p]? = some ⟨.var, m.cells xe xd⟩) : loadA g true 15 [.sc (.ptr p 0 15)] = some ([.agg (m.cells xe xd)], g) := by
  have hc := cellsL m xe xd
  simp [loadA, hg, hc, List.take_of_length_le (Nat.le_of_eq hc)]
theorem MsAt.zero (h : Heap) : MsAt h Ms.zero .nils .nils :=
  ⟨⟨.inl ⟨rfl, rfl, rfl⟩, fun z hz => by simp [Ms.zero] at hz, fun z hz => by simp [Ms.zero] at hz⟩, .inl ⟨rfl, rfl, rfl⟩, by simp [Ms.zero], by simp [Ms.zero], by simp [Ms.zero]⟩
theorem encM_plain {m m' : Ms} (h : m'.plain = m.plain) : encM m' = encM m ∧ errM m' = errM m ∧ bodyM m' = bodyM m := by
  obtain ⟨h1, h2⟩ := Ms.of_plain h
  rw [h1]
  exact ⟨encM_wes h2, errM_wes h2, bodyM_wes h2⟩
end Go.Proofs.Ytoghoddofokekaa
end

