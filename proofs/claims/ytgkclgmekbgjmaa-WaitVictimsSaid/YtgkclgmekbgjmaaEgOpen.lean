/- OPENING edges that came in. -/
import Derived.Test.YtgkclgmekbgjmaaOpen
import Derived.Test.YtgkclgmekbgjmaaEg
import Derived.Deep.Strs
import Derived.Lib.SmallJoins
namespace Go.Proofs.Ytgkclgmekbgjmaa
open Go.ChangeShapes Go.WideShapes Go.ChangeAt Go.RowKit Go.ChangeMaps Go.Deep

theorem Try.cellsEg : Try.prog.cellsOf 46 = 2 := by kernel_rfl
theorem Try.cellsIntE : Try.prog.cellsOf 3 = 1 := by kernel_rfl
theorem Try.bytesEg : Try.prog.bytesOf 46 = 16 := by kernel_rfl
theorem Try.infoEg : (Try.prog.info? 46).map (fun i => (i.zero, i.size, i.bytes)) = some (some (.agg #[.int .i64 0, .int .i64 0]), 2, 16) := by kernel_rfl

section
variable {H : Type} {enc : TypeId × Value → H} {w : World}
set_option maxRecDepth 100000 in
theorem open_eg {n : Nat} {cs : List Value} {x : DataW H × List MemPlace} (h : DataW.trod enc Try.prog w 0 (fun _ => true) true n 46 cs = some x) :
    ∃ o : EgM, cs = [.int .i64 o.frm, .int .i64 o.to_] := by
  obtain ⟨y0, y1, m, rfl, hl, h0, h1⟩ := trod_struct2 Try.underlying46 h
  rw [Try.cellsEg] at hl
  match cs, hl with
  | [c0, c1], _ =>
    simp only [Try.cellsIntE, List.drop_zero, List.take_succ_cons, List.take_zero, List.drop_succ_cons] at h0 h1
    obtain ⟨x0, e0, rfl, _⟩ := DataW.trod_int Try.underlying3 h0
    obtain ⟨x1, e1, rfl, _⟩ := DataW.trod_int Try.underlying3 h1
    simp only [List.cons.injEq, and_true] at e0 e1
    subst e0; subst e1
    exact ⟨⟨x0, x1⟩, rfl⟩

set_option maxRecDepth 100000 in
/-- Edges that came in. -/
theorem open_egs {r : Reach} {b0 : Nat} {v : Value} {d : DataW H} {p : List MemPlace} (hval : Value.okWide Try.prog w r b0 42 v) (h : DataW.Trod enc Try.prog w 0 (fun _ => true) true 42 v d p) (hsz : ∀ n ∈ d.weights Try.prog 42, n ≤ reachBytes) :
    ∃ ao cap L, v = .slice ao L.length cap ∧ EgsAt w ao L ∧ L.length ≤ cap ∧ (ao = none → cap = 0) ∧ L.length ≤ 8796093022200 := by
  obtain ⟨a0, n0, c0, rfl⟩ := okWide_slice Try.underlying42 hval
  obtain ⟨fuel, hf⟩ := h
  have hf : DataW.trod enc Try.prog w 0 (fun _ => true) true fuel 42 [.slice a0 n0 c0] = some (d, p) := hf
  have hr : reachBytes = 140737488351232 := rfl
  rcases Open.slice_rows (w := w) Try.underlying42 Try.cellsEg (by omega) hf with ⟨h1, e⟩ | ⟨a, len, cap, m, D, Pl, h1, hle, hmx, e, hel, hpl⟩
  · rw [h1]
    exact ⟨none, 0, [], rfl, Or.inl rfl, Nat.le_refl _, fun _ => rfl, by decide⟩
  · simp only at e
    rw [e] at hsz
    have hcap := hsz _ (Open.weights_cap Try.underlying42)
    rw [Try.bytesEg] at hcap
    simp only [List.length_map, List.length_range] at hcap
    obtain ⟨F, hF⟩ := choose_lt (α := EgM) (n := len) (p := fun i s => w.cell? (a.add (i * 2 + 0)) = some (.int .i64 s.frm) ∧ w.cell? (a.add (i * 2 + 1)) = some (.int .i64 s.to_)) (fun i hi => by
      obtain ⟨cs', c1, c2, c3⟩ := hel i hi
      obtain ⟨o, rfl⟩ := open_eg c3
      exact ⟨o, c2 0 (by omega), c2 1 (by omega)⟩)
    have hlen : ((List.range len).map F).length = len := by simp
    refine ⟨some a, cap, (List.range len).map F, (by rw [hlen, h1]), ?_, (by rw [hlen]; exact hle), (fun h => by cases h), (by rw [hlen]; omega)⟩
    by_cases h0 : len = 0
    · left; subst h0; rfl
    · right
      obtain ⟨b, off, rfl, hb⟩ := hpl (by omega)
      refine ⟨b, off, rfl, hb, fun k hk => ?_⟩
      rw [hlen] at hk
      obtain ⟨f1, f2⟩ := hF k hk
      rw [Addr.add_lit] at f1 f2
      simp only [List.getElem_map, List.getElem_range]
      exact ⟨f1, f2⟩
end
end Go.Proofs.Ytgkclgmekbgjmaa
