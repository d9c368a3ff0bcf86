/- PackReads: the law's call says true, of any bytes and asks. -/
import Derived.Test.YtokdnndocipilaaSG
import Derived.Test.YtokdnndocipilaaY3
import Derived.Test.YtokdnndocipilaaZ0
set_option linter.unusedVariables false
set_option linter.unusedSimpArgs false
set_option maxRecDepth 100000
namespace Go.Proofs.Ytokdnndocipilaa.lawPackReads
open Go.Abs

theorem in_asksZ {H : Type} {k : Nat} {tv : TV} {d : DataW H} {h : Heap} (hi : In1 Try.prog h (k + 3) 47 tv d) (hw : WOk Try.prog 47 d) : ∃ (x : SV) (q : List Ask), tv = [.sc x] ∧ Row h x 4 q.length (askC q) ∧ (∀ z ∈ q, z.ok) ∧ q.length ≤ 140737488351232 := by
  obtain ⟨xs, hv, rfl⟩ := in_cell agSlA hi
  rcases View.slice tySlA czA hv with ⟨rfl, rfl⟩ | ⟨b, n, cs, els, rest, rfl, h2, h3, h4, h5, rfl, h7⟩
  · exact ⟨.nils, [], rfl, .inl ⟨rfl, rfl, rfl⟩, by simp, by simp⟩
  · obtain ⟨l, g1, g2, g3⟩ := list_of (cells := Ask.cells) (ok := Ask.ok) (sz := 4) n cs h3 fun i hi => view_ask (h7 i _ (List.getElem?_eq_getElem (by omega)))
    refine ⟨_, l, rfl, .inr ⟨b, 0, n * 4, _, by rw [g1], h2, by simp [h3], by rw [g1]; omega, rfl, ?_⟩, g3, ?_⟩
    · rw [g1, List.drop_zero, ← h3, List.take_length]
      exact g2
    · have hs := (wok_slice tySlA hw).1
      rw [show Try.prog.bytesOf 51 = 32 by kernel_rfl] at hs
      rw [g1]
      omega

theorem core {H : Type} (h : Heap) (tvs : List TV) (ds : List (DataW H)) (hr : AllRo h) (hi : Ins Try.prog h 6 [23, 47] tvs ds) (hz : (DataW.weightsEach Try.prog [23, 47] ds).all (· ≤ reachBytes) = true) : ∃ h', callE F O 6 tvs h = some ([.sc (.bool true)], h') := by
  obtain ⟨tv, d, tvs, ds, rfl, rfl, h1, hi⟩ := ins_cons hi
  obtain ⟨tv2, d2, rfl, rfl, h2⟩ := ins_one hi
  obtain ⟨x, l, rfl, hx, hl⟩ := in_bytesZ h1 (wok_of hz 0 rfl rfl)
  obtain ⟨y, q, rfl, hy, hq, hql⟩ := in_asksZ h2 (wok_of hz 1 rfl rfl)
  have kn := spec13 h
  obtain ⟨g, e1⟩ := spec29 hx hy (by omega) hq (by omega)
  refine ⟨_, callX (hh := trim h g [.sc (.bool true)]) rfl (by rfl : F 6 = some M.a6) (fun R RO RD RT E => ?_)⟩
  simp [M.a6, E.eqs, kn, e1]
end Go.Proofs.Ytokdnndocipilaa.lawPackReads
