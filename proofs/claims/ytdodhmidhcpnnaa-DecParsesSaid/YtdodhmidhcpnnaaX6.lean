/- The abstract machine, part 6: append, cuts, conversions, what is built. -/
import Derived.Test.YtdodhmidhcpnnaaX5
set_option linter.unusedVariables false
set_option linter.unusedSimpArgs false
namespace Go.Abs
section
variable {P : Program} {base : Nat} {σ : Nat → Addr} {h h' : Heap} {w : World} {tv : TV}

/-- what is appended, in memory -/
theorem src_R (H : HR base σ h w) {sz : Nat} {y : AV} {m : Nat} {cs : List SV} (hs : srcOf h sz y = some (m, cs)) {v : Value} (hv : AVR σ h w y v) :
    cs.length = m * sz ∧ ((v = .slice none 0 0 ∧ m = 0) ∨ ∃ a c, v = .slice (some a) m c ∧ ∃ vs : List Value, All2 (SVR σ h w) cs vs ∧ ∀ (j : Nat) (u : Value), vs[j]? = some u → w.cell? (a.add j) = some u) := by
  unfold srcOf at hs
  split at hs
  · injection hs with hs
    injection hs with e1 e2
    subst e1 e2
    exact ⟨by simp, .inl ⟨hv, rfl⟩⟩
  · rename_i b o n c
    split at hs
    · rename_i B hB
      split at hs
      · rename_i hc
        obtain ⟨c1, c2, c3⟩ := hc
        injection hs with hs
        injection hs with e1 e2
        subst e1 e2
        obtain ⟨ad, cap, rfl, h2, h3, h4⟩ := fresh_sl (w := w) hv hB c1
        have hlen : ((B.c.drop o).take (n * sz)).length = n * sz := by simp; omega
        refine ⟨hlen, .inr ⟨ad, cap, rfl, ?_⟩⟩
        by_cases hz : n * sz = 0
        · refine ⟨[], by rw [hz]; simp [All2], fun j u hu => by simp at hu⟩
        · have had : ad = (σ b).add o := by
            rcases h3 with h3 | h3
            · exact h3
            · have : n = 0 := by omega
              subst this
              simp at hz
          subst had
          have hex : ∀ i, i < n * sz → ∃ v, w.cell? (((σ b).add o).add i) = some v ∧ ∀ x, B.c[o + i]? = some x → SVR σ h w x v := fun i hi => by
            obtain ⟨v, q1, q2⟩ := H.read hB (i := o + i) (x := B.c[o + i]) (List.getElem?_eq_getElem (by omega))
            exact ⟨v, by rw [add_add]; exact q1, fun x hx => by rw [List.getElem?_eq_getElem (by omega)] at hx; injection hx with hx; subst hx; exact q2⟩
          let f : Nat → Value := fun i => if hi : i < n * sz then (hex i hi).choose else undef
          have hf : ∀ i (hi : i < n * sz), w.cell? (((σ b).add o).add i) = some (f i) ∧ ∀ x, B.c[o + i]? = some x → SVR σ h w x (f i) := fun i hi => by
            simp only [f, dif_pos hi]
            exact (hex i hi).choose_spec
          refine ⟨(List.range (n * sz)).map f, All2.of_get (by simp; omega) fun i a v ha hv => ?_, fun j u hu => ?_⟩
          · have hi : i < n * sz := by
              rcases Nat.lt_or_ge i (n * sz) with hlt | hge
              · exact hlt
              · rw [List.getElem?_eq_none (by simp; omega)] at hv; cases hv
            rw [List.getElem?_take, if_pos hi, List.getElem?_drop] at ha
            simp only [List.getElem?_map, List.getElem?_range hi, Option.map_some] at hv
            injection hv with hv
            subst hv
            exact (hf i hi).2 a ha
          · have hj : j < n * sz := by have := lt_of_get hu; simpa using this
            simp only [List.getElem?_map, List.getElem?_range hj, Option.map_some] at hu
            injection hu with hu
            subst hu
            exact (hf j hj).1
      · contradiction
    · contradiction
  · rename_i n l
    split at hs
    · rename_i hl
      injection hs with hs
      injection hs with e1 e2
      subst e1 e2
      obtain ⟨c, arr, e, rfl, h2, h3, h4⟩ := hv
      refine ⟨hl, .inr ⟨_, _, rfl, arr.toList, h3, fun j u hu => ?_⟩⟩
      rw [cell_add0, cell_of_row w c j arr e (0, 0) h2]
      simpa using hu
    · contradiction
  · contradiction

theorem run_append_none {t ty e : TypeId} {i : TypeInfo} (ht : P.underlying t = some (.slice e)) (hi : P.info? e = some i) (a : Option Addr) (n cap : Nat) (hn : n ≤ cap) (w : World) :
    (Builtin.append_ #[t, t] ty #[.slice a n cap, .slice none 0 0]).run P w = .ok (.slice a n cap) w := by
  have hn' : n + 0 ≤ cap := hn
  cases a <;> simp [Builtin.append_, run_underlying ht, sizeOf, typeInfo, hi, Builtin.lenOf, hn, run_firstCells_none, storeCells]

theorem zip_take {l : List SV} {arr : Array Value} {n : Nat} (hn : l.length = n) (hle : n ≤ arr.size) (hc : ∀ (i : Nat) (x : SV), l[i]? = some x → ∃ v, arr[i]? = some v ∧ SVR σ h w x v) : All2 (SVR σ h w) l (arr.toList.take n) :=
  All2.of_get (by simp; omega) fun i a b ha hb => by
    have hi := lt_of_get ha
    rw [List.getElem?_take, if_pos (by omega)] at hb
    obtain ⟨v, hv, hr⟩ := hc i a ha
    have : b = v := by
      have hb' : arr[i]? = some b := by simpa using hb
      rw [hv] at hb'
      injection hb' with hb'
      exact hb'.symm
    exact this ▸ hr

theorem set_same {α : Type} {l : List α} {b : Nat} {x : α} (h : l[b]? = some x) : l.set b x = l := by
  apply List.ext_getElem?
  intro j
  by_cases hj : j = b
  · subst hj; rw [get_set_same h, h]
  · rw [get_set_other hj]

/-- append -/
theorem g_app (H : HR base σ h w) {t ty e sz by_ : Nat} {i : TypeInfo} {z : Value} (ht : P.underlying t = some (.slice e)) (hi : P.info? e = some i) (hz : i.zero = some z) (hsz : i.size = sz) (hby : i.bytes = by_) (hzs : z.cells.size = sz) (h0 : 0 < sz) (hb0 : 0 < by_)
    {x y : AV} {vx vy : Value} (hx : AVR σ h w x vx) (hy : AVR σ h w y vy) (hs : appA h e sz by_ x y = some (tv, h')) : Good P base σ h w (Builtin.append_ #[t, t] ty #[vx, vy]) tv h' := by
  unfold appA at hs
  split at hs
  · contradiction
  · rename_i m cs hsrc
    obtain ⟨hlen, hsv⟩ := src_R H hsrc hy
    split at hs
    · -- nil
      rw [show vx = .slice none 0 0 from hx]
      split at hs
      · rename_i hm
        injection hs with hs
        injection hs with e1 e2
        subst e1 e2 hm
        rcases hsv with ⟨rfl, _⟩ | ⟨a, c, rfl, vs, ha, hc⟩
        · exact Good.same H (v := .slice none 0 0) (run_append_none ht hi none 0 0 (Nat.le_refl _) w) rfl
        · refine Good.same H (v := .slice none 0 0) ?_ rfl
          simp [Builtin.append_, run_underlying ht, sizeOf, typeInfo, hi, Builtin.lenOf, Builtin.firstCells, loadCells, loadCellsFrom]
      · rename_i hm
        split at hs
        · rename_i hl
          injection hs with hs
          injection hs with e1 e2
          subst e1 e2
          rcases hsv with ⟨_, hm0⟩ | ⟨a, c, rfl, vs, ha, hc⟩
          · exact absurd hm0 hm
          · have hvl := All2.length ha
            have hbnd : m * by_ ≤ 140737488355328 := hl
            have hm1 : m ≤ m * by_ := Nat.le_mul_of_pos_right m hb0
            have hr := run_append_nil (P := P) w t ty e i z ht hi hz a m c vs (by rw [← hvl, hlen, hsz]) hc (by omega) (by omega) (by rw [hby]; omega)
            have hcap := grownCap_ge w m 0 e
            have hcapm := grownCap_le_maxLen w m 0 e (by simp only [maxLen]; omega)
            have hasz : (vs.toArray ++ Builtin.zeroCells z.cells (grownCap w m 0 e - m)).size = grownCap w m 0 e * sz := by
              simp only [Array.size_append, List.size_toArray, size_zeroCells, hzs, ← hvl, hlen, ← Nat.add_mul]
              congr 1
              omega
            have N := (H.drew).alloc ⟨.row e sz, cs⟩ (by simp) (vs.toArray ++ Builtin.zeroCells z.cells (grownCap w m 0 e - m)) e (0, 0) ⟨Nat.le_refl _, fun i _ => by simp⟩ (by simp [hvl]) (fun e' s' he => by injection he with q1 q2; subst q1 q2; exact ⟨rfl, rfl, h0⟩)
              (fun j xx hj => by
                obtain ⟨v, hv, hr⟩ := All2.get ha j xx hj
                exact ⟨v, by rw [Array.getElem?_append_left (by have := lt_of_get hv; simpa using this)]; simpa using hv, SVR.ext H Ext.drew hr⟩)
            refine ⟨_, _, _, hr, N, (Ext.drew (σ := σ) (h := h) (w := w)).trans (Ext.alloc H.drew ⟨.row e sz, cs⟩ (by simp) _), ⟨⟨.row e sz, cs⟩, by simp, by simp [hlen], rfl, fun _ => ⟨_, _, rfl, hcap, .inl (by rw [upd_same]; exact (cell_add0 _ _).symm), ?_⟩⟩⟩
            rw [upd_same]
            have hrs : rowSize (w.drew.alloc (.cells (vs.toArray ++ Builtin.zeroCells z.cells (grownCap w m 0 e - m)) e)) w.heap.size = grownCap w m 0 e * sz := by
              unfold rowSize
              rw [show w.heap.size = w.drew.heap.size from rfl, heap_alloc_new]
              exact hasz
            exact ⟨hcapm, by rw [World.size_drew, hrs]; omega, fun _ => by rw [World.size_drew, hrs]⟩
        · contradiction
    · -- a row of its own
      rename_i b o n c
      split at hs
      · rename_i B hB
        split at hs
        · rename_i hc
          obtain ⟨rfl, hk, hn, hcl, hl⟩ := hc
          injection hs with hs
          injection hs with e1 e2
          subst e1 e2
          obtain ⟨ad, cap, rfl, q2, q3, q4⟩ := fresh_sl (w := w) hx hB (by omega)
          have hne : B.k ≠ .ro := by rw [hk]; simp
          obtain ⟨g, arr, e', fr, s1, s2, s3, s4, s5, s6, s7⟩ := H.open_own hB hne
          obtain ⟨rfl, rfl, _⟩ := s6 e sz hk
          have had : ad = ⟨g, 0, none⟩ := by
            rcases q3 with q3 | q3
            · rw [q3, s1]; rfl
            · omega
          subst had
          rw [hk, s1] at q4
          have hrs : rowSize w g = arr.size := by unfold rowSize; rw [s3]
          obtain ⟨p1, p2, p3⟩ := q4
          have p3' := p3 rfl
          rw [hrs] at p3'
          have hBl : B.c.length = n * sz := by omega
          have hbnd : (n + m) * by_ ≤ 140737488355328 := hl
          have hnm1 : n + m ≤ (n + m) * by_ := Nat.le_mul_of_pos_right _ hb0
          rcases hsv with ⟨rfl, rfl⟩ | ⟨a, ca, rfl, vs, ha, hcell⟩
          · -- nothing is appended
            have hcs : cs = [] := List.eq_nil_of_length_eq_zero (by simpa using hlen)
            subst hcs
            have hset : h.set b ⟨.row e' sz, B.c ++ []⟩ = h := by
              rw [List.append_nil, ← hk]
              exact set_same hB
            rw [hset]
            refine Good.same H (v := .slice (some ⟨g, 0, none⟩) n cap) (run_append_none ht hi _ n cap q2 w) ?_
            rw [Nat.add_zero, Nat.zero_mul, Nat.add_zero]
            exact hx
          · have hvl := All2.length ha
            by_cases hroom : n + m ≤ cap
            · -- in its place
              have hmul : (n + m) * sz ≤ cap * sz := Nat.mul_le_mul_right _ hroom
              have hmul2 : (n + m) * sz = n * sz + m * sz := Nat.add_mul _ _ _
              have hr := run_append_room (P := P) w t ty e' i ht hi g n cap arr s3 a m ca vs (by rw [← hvl, hlen, hsz]) hcell (All2.one ha) hroom (by rw [hsz, ← hvl, hlen]; omega)
              rw [hsz] at hr
              have hasz : ((arr.toList.take (n * sz) ++ vs ++ arr.toList.drop (n * sz + vs.length)).toArray).size = arr.size := by
                simp only [List.size_toArray, List.length_append, List.length_take, List.length_drop, Array.length_toList]
                omega
              have hrel : ∀ (j : Nat) (x : SV), (B.c ++ cs)[j]? = some x → ∃ v, ((arr.toList.take (n * sz) ++ vs ++ arr.toList.drop (n * sz + vs.length)).toArray)[j]? = some v ∧ SVR σ h w x v := fun j x hj => by
                have A := All2.append (zip_take (l := B.c) (arr := arr) hBl (by omega) s7) ha
                obtain ⟨v, hv, hr⟩ := All2.get A j x hj
                refine ⟨v, ?_, hr⟩
                have hlt := lt_of_get hv
                simp only [List.getElem?_toArray]
                rw [List.getElem?_append_left hlt]
                exact hv
              have R := H.rewrite (w' := w.setRow g (arr.toList.take (n * sz) ++ vs ++ arr.toList.drop (n * sz + vs.length)).toArray) hB hne s1 s3 hasz (B.c ++ cs) (by simp) (setRow_heap w g arr _ e' _ s3) (fun k hk => setRow_other w g k _ hk) rfl rfl rfl (by simp) (by simp [hBl, hlen]; omega) hrel
              have X := Ext.rewrite (w' := w.setRow g (arr.toList.take (n * sz) ++ vs ++ arr.toList.drop (n * sz + vs.length)).toArray) H hB hne s1 s3 hasz (B.c ++ cs) (by simp) (setRow_heap w g arr _ e' _ s3) (fun k hk => setRow_other w g k _ hk) rfl rfl rfl (by simp)
              rw [hk] at R X
              refine ⟨_, _, _, hr, R, X, ⟨⟨.row e' sz, B.c ++ cs⟩, get_set_same hB, by simp [hlen]; omega, rfl, fun _ => ⟨_, _, rfl, hroom, .inl (by rw [s1]; exact (cell_add0 _ _).symm), ?_⟩⟩⟩
              rw [s1]
              have hrs' : rowSize (w.setRow g (arr.toList.take (n * sz) ++ vs ++ arr.toList.drop (n * sz + vs.length)).toArray) g = arr.size := by
                unfold rowSize
                rw [setRow_heap w g arr _ e' _ s3]
                exact hasz
              exact ⟨p1, by rw [hrs']; omega, fun _ => by rw [hrs']; exact p3'⟩
            · -- in a new row
              have hcap := grownCap_ge w (n + m) cap e'
              have hcapm := grownCap_le_maxLen w (n + m) cap e' (by simp only [maxLen]; omega)
              have A0 := zip_take (l := B.c) (arr := arr) hBl (by omega) s7
              have hr := run_append_grow (P := P) w t ty e' i z ht hi hz ⟨g, 0, none⟩ n cap (arr.toList.take (n * sz)) (by simp [hsz]; omega) (fun j v hv => by
                  rw [cell_add0, cell_of_row w g j arr e' (0, 0) s3]
                  rw [List.getElem?_take] at hv
                  split at hv
                  · simpa using hv
                  · cases hv) a m ca vs (by rw [← hvl, hlen, hsz]) hcell (by omega) (by omega) (growslice_fits (by omega) (by rw [hby]; exact hbnd))
              have hasz : ((arr.toList.take (n * sz)).toArray ++ vs.toArray ++ Builtin.zeroCells z.cells (grownCap w (n + m) cap e' - (n + m))).size = grownCap w (n + m) cap e' * sz := by
                simp only [Array.size_append, List.size_toArray, List.length_take, Array.length_toList, size_zeroCells, hzs, ← hvl, hlen]
                have : min (n * sz) arr.size = n * sz := by have := Nat.mul_le_mul_right sz q2; omega
                rw [this, ← Nat.add_mul, ← Nat.add_mul]
                congr 1
                omega
              have hm0 : 0 < m := by omega
              have hmz : 0 < m * sz := Nat.mul_pos hm0 h0
              have hBcs : (B.c ++ cs).length = (n + m) * sz := by simp [hBl, hlen, Nat.add_mul]
              have hge : (n + m) * sz ≤ grownCap w (n + m) cap e' * sz := Nat.mul_le_mul_right _ hcap
              have R := H.drew.move (w' := w.drew.alloc (.cells ((arr.toList.take (n * sz)).toArray ++ vs.toArray ++ Builtin.zeroCells z.cells (grownCap w (n + m) cap e' - (n + m))) e')) hB hne (B.c ++ cs) (by simp [hlen]; omega) (by simp) (fun k hk => heap_alloc_old w.drew _ k hk) rfl rfl rfl (heap_alloc_new w.drew _) (by rw [hBcs, hasz]; exact hge)
                (fun e'' s'' he => by rw [hk] at he; injection he with q1 q2; subst q1 q2; exact ⟨rfl, h0⟩)
                (fun j x hj => by
                  obtain ⟨v, hv, hr⟩ := All2.get (All2.append A0 ha) j x hj
                  have hlt := lt_of_get hv
                  refine ⟨v, ?_, SVR.ext H Ext.drew hr⟩
                  rw [Array.getElem?_append_left (by simpa using hlt)]
                  rw [← Array.getElem?_toList]
                  simpa using hv)
              have X := Ext.move (w' := w.drew.alloc (.cells ((arr.toList.take (n * sz)).toArray ++ vs.toArray ++ Builtin.zeroCells z.cells (grownCap w (n + m) cap e' - (n + m))) e')) H.drew hB hne (B.c ++ cs) (by simp [hlen]; omega) (by simp) (fun k hk => heap_alloc_old w.drew _ k hk) rfl rfl rfl
              rw [hk] at R X
              refine ⟨_, _, _, hr, R, (Ext.drew (σ := σ) (h := h) (w := w)).trans X, ⟨⟨.row e' sz, B.c ++ cs⟩, get_set_same hB, by simp [hlen]; omega, rfl, fun _ => ⟨_, _, rfl, hcap, .inl (by rw [upd_same]; exact (cell_add0 _ _).symm), ?_⟩⟩⟩
              rw [upd_same]
              have hrs' : rowSize (w.drew.alloc (.cells ((arr.toList.take (n * sz)).toArray ++ vs.toArray ++ Builtin.zeroCells z.cells (grownCap w (n + m) cap e' - (n + m))) e')) w.drew.heap.size = grownCap w (n + m) cap e' * sz := by
                unfold rowSize
                rw [heap_alloc_new]
                exact hasz
              exact ⟨hcapm, by rw [hrs']; omega, fun _ => by rw [hrs']⟩
        · contradiction
      · contradiction
    · -- a literal row
      rename_i n l
      split at hs
      · rename_i hc
        obtain ⟨hm, hll, hl⟩ := hc
        injection hs with hs
        injection hs with e1 e2
        subst e1 e2
        obtain ⟨g, arr, e', rfl, s3, A0, _⟩ := hx
        rcases hsv with ⟨_, hm0⟩ | ⟨a, ca, rfl, vs, ha, hcell⟩
        · exact absurd hm0 hm
        · have hvl := All2.length ha
          have hal := All2.length A0
          have harr : arr.size = n * sz := by rw [← hll, hal]; simp
          have hbnd : (n + m) * by_ ≤ 140737488355328 := hl
          have hnm1 : n + m ≤ (n + m) * by_ := Nat.le_mul_of_pos_right _ hb0
          have hcap := grownCap_ge w (n + m) n e
          have hcapm := grownCap_le_maxLen w (n + m) n e (by simp only [maxLen]; omega)
          have hr := run_append_grow (P := P) w t ty e i z ht hi hz ⟨g, 0, none⟩ n n arr.toList (by simp [hsz]; omega) (fun j v hv => by
              rw [cell_add0, cell_of_row w g j arr e' (0, 0) s3]
              simpa using hv) a m ca vs (by rw [← hvl, hlen, hsz]) hcell (by omega) (by omega) (growslice_fits (by omega) (by rw [hby]; exact hbnd))
          have hasz : (arr.toList.toArray ++ vs.toArray ++ Builtin.zeroCells z.cells (grownCap w (n + m) n e - (n + m))).size = grownCap w (n + m) n e * sz := by
            simp only [Array.size_append, List.size_toArray, Array.length_toList, size_zeroCells, hzs, ← hvl, hlen]
            rw [harr, ← Nat.add_mul, ← Nat.add_mul]
            congr 1
            omega
          have hBcs : (l ++ cs).length = (n + m) * sz := by simp [hll, hlen, Nat.add_mul]
          have N := (H.drew).alloc ⟨.row e sz, l ++ cs⟩ (by simp) (arr.toList.toArray ++ vs.toArray ++ Builtin.zeroCells z.cells (grownCap w (n + m) n e - (n + m))) e (0, 0) ⟨Nat.le_refl _, fun i _ => by simp⟩ (by rw [hBcs, hasz]; exact Nat.mul_le_mul_right _ hcap) (fun e' s' he => by injection he with q1 q2; subst q1 q2; exact ⟨rfl, rfl, h0⟩)
            (fun j xx hj => by
              obtain ⟨v, hv, hr⟩ := All2.get (All2.append A0 ha) j xx hj
              have hlt := lt_of_get hv
              refine ⟨v, ?_, SVR.ext H Ext.drew hr⟩
              rw [Array.getElem?_append_left (by simpa using hlt)]
              rw [← Array.getElem?_toList]
              simpa using hv)
          refine ⟨_, _, _, hr, N, (Ext.drew (σ := σ) (h := h) (w := w)).trans (Ext.alloc H.drew ⟨.row e sz, l ++ cs⟩ (by simp) _), ⟨⟨.row e sz, l ++ cs⟩, by simp, by simp only [hBcs]; omega, rfl, fun _ => ⟨_, _, rfl, hcap, .inl (by rw [upd_same]; exact (cell_add0 _ _).symm), ?_⟩⟩⟩
          rw [upd_same]
          have hrs : rowSize (w.drew.alloc (.cells (arr.toList.toArray ++ vs.toArray ++ Builtin.zeroCells z.cells (grownCap w (n + m) n e - (n + m))) e)) w.heap.size = grownCap w (n + m) n e * sz := by
            unfold rowSize
            rw [show w.heap.size = w.drew.heap.size from rfl, heap_alloc_new]
            exact hasz
          exact ⟨hcapm, by rw [World.size_drew, hrs]; omega, fun _ => by rw [World.size_drew, hrs]⟩
      · contradiction
    · contradiction
end
end Go.Abs
