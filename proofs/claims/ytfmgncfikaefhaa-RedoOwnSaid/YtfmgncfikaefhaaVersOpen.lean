/- OPENING versions and numbers that came in; quirref.Rest. -/
import Derived.Test.YtfmgncfikaefhaaNumOpen
import Derived.Test.YtfmgncfikaefhaaVacA
import Derived.Deep.Strs
namespace Go.Proofs.Ytfmgncfikaefhaa
open Go.ChangeShapes Go.WideShapes Go.ChangeAt Go.RowKit Go.ChangeMaps Go.Deep

theorem Try.cellsVer : Try.prog.cellsOf 42 = 2 := by kernel_rfl
theorem Try.cellsStr' : Try.prog.cellsOf 9 = 1 := by kernel_rfl
theorem Try.bytesVer : Try.prog.bytesOf 42 = 24 := by kernel_rfl

section
variable {H : Type} {enc : TypeId × Value → H} {w : World}

set_option maxRecDepth 100000 in
theorem open_ver {n : Nat} {cs : List Value} {x : DataW H × List MemPlace} (h : DataW.trod enc Try.prog w 0 (fun _ => true) true n 42 cs = some x) :
    ∃ o : Int × ByteArray, cs = [.int .i64 o.1, .string o.2] := by
  obtain ⟨y0, y1, m, rfl, hl, h0, h1⟩ := trod_struct2 Try.underlying42 h
  rw [Try.cellsVer] at hl
  match cs, hl with
  | [c0, c1], _ =>
    simp only [Try.cellsInt', Try.cellsStr', List.drop_zero, List.take_succ_cons, List.take_zero, List.drop_succ_cons] at h0 h1
    obtain ⟨x0, rfl, _⟩ := open_int1' h0
    obtain ⟨s, e1, rfl, _⟩ := DataW.trod_string Try.underlying9 h1
    simp only [List.cons.injEq, and_true] at e1
    subst e1
    exact ⟨⟨x0, s⟩, rfl⟩

set_option maxRecDepth 100000 in
/-- Versions that came in. -/
theorem open_vers {r : Reach} {b0 : Nat} {v : Value} {d : DataW H} {p : List MemPlace} (hval : Value.okWide Try.prog w r b0 39 v) (h : DataW.Trod enc Try.prog w 0 (fun _ => true) true 39 v d p) (hsz : ∀ n ∈ d.weights Try.prog 39, n ≤ reachBytes) :
    ∃ ao cap l, v = .slice ao l.length cap ∧ (ao = none → cap = 0) ∧ VersAt w ao l ∧ l.length ≤ cap ∧ cap * 24 ≤ 140737488351232 := by
  obtain ⟨a0, n0, c0, rfl⟩ := okWide_slice Try.underlying39 hval
  obtain ⟨fuel, hf⟩ := h
  have hf : DataW.trod enc Try.prog w 0 (fun _ => true) true fuel 39 [.slice a0 n0 c0] = some (d, p) := hf
  have hr : reachBytes = 140737488351232 := rfl
  rcases Open.slice_rows (w := w) Try.underlying39 Try.cellsVer (by omega) hf with ⟨h1, e⟩ | ⟨a, len, cap, m, D, Pl, h1, hle, hmx, e, hel, hpl⟩
  · rw [h1]
    exact ⟨none, 0, [], rfl, fun _ => rfl, Or.inl rfl, Nat.le_refl _, by omega⟩
  · simp only at e
    rw [e] at hsz
    have hcap := hsz _ (Open.weights_cap Try.underlying39)
    rw [Try.bytesVer] at hcap
    simp only [List.length_map, List.length_range] at hcap
    obtain ⟨F, hF⟩ := choose_lt (α := Int × ByteArray) (n := len) (p := fun i o => w.cell? (a.add (i * 2 + 0)) = some (.int .i64 o.1) ∧ w.cell? (a.add (i * 2 + 1)) = some (.string o.2)) (fun i hi => by
      obtain ⟨cs', c1, c2, c3⟩ := hel i hi
      obtain ⟨o, rfl⟩ := open_ver c3
      exact ⟨o, c2 0 (by omega), c2 1 (by omega)⟩)
    have hlen : ((List.range len).map F).length = len := by simp
    refine ⟨some a, cap, (List.range len).map F, (by rw [hlen, h1]), (fun h => by cases h), ?_, (by rw [hlen]; exact hle), (by omega)⟩
    by_cases h0 : len = 0
    · left; subst h0; rfl
    · right
      obtain ⟨b, off, rfl, hb⟩ := hpl (by omega)
      refine ⟨b, off, rfl, hb, fun k hk => ?_⟩
      rw [hlen] at hk
      obtain ⟨f0, f1⟩ := hF k hk
      rw [Addr.add_lit] at f0 f1
      simp only [List.getElem_map, List.getElem_range]
      exact ⟨f0, f1⟩

end
end Go.Proofs.Ytfmgncfikaefhaa
