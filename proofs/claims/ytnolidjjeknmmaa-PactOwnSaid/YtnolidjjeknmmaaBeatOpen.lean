/- OPENING beats that came in. -/
import Derived.Test.YtnolidjjeknmmaaOpen
import Derived.Test.YtnolidjjeknmmaaPactB
import Derived.Deep.Strs
namespace Go.Proofs.Ytnolidjjeknmmaa
open Go.ChangeShapes Go.WideShapes Go.ChangeAt Go.RowKit Go.ChangeMaps Go.Deep

theorem Try.cellsBeat : Try.prog.cellsOf 24 = 3 := by kernel_rfl
theorem Try.cellsInt4 : Try.prog.cellsOf 3 = 1 := by kernel_rfl
theorem Try.bytesBeat : Try.prog.bytesOf 24 = 24 := by kernel_rfl

section
variable {H : Type} {enc : TypeId × Value → H} {w : World}

theorem open_int4 {n : Nat} {c : Value} {y : DataW H × List MemPlace} (h : DataW.trod enc Try.prog w 0 (fun _ => true) true n 3 [c] = some y) :
    ∃ x : Int, c = .int .i64 x := by
  obtain ⟨x, e, rfl, hw⟩ := DataW.trod_int Try.underlying3 h
  simp only [List.cons.injEq, and_true] at e
  exact ⟨x, e⟩

set_option maxRecDepth 100000 in
theorem open_beat {n : Nat} {cs : List Value} {x : DataW H × List MemPlace} (h : DataW.trod enc Try.prog w 0 (fun _ => true) true n 24 cs = some x) :
    ∃ o : BeatM, cs = [.int .i64 o.kind, .int .i64 o.who, .int .i64 o.by_] := by
  obtain ⟨y0, y1, y2, m, rfl, hl, h0, h1, h2⟩ := trod_struct3 Try.underlying24 h
  rw [Try.cellsBeat] at hl
  match cs, hl with
  | [c0, c1, c2], _ =>
    simp only [Try.cellsInt4, List.drop_zero, List.take_succ_cons, List.take_zero, List.drop_succ_cons] at h0 h1 h2
    obtain ⟨x0, rfl⟩ := open_int4 h0
    obtain ⟨x1, rfl⟩ := open_int4 h1
    obtain ⟨x2, rfl⟩ := open_int4 h2
    exact ⟨⟨x0, x1, x2⟩, rfl⟩

set_option maxRecDepth 100000 in
/-- One beat that came in. -/
theorem open_beat1 {r : Reach} {b0 : Nat} {v : Value} {d : DataW H} {p : List MemPlace} (hval : Value.okWide Try.prog w r b0 24 v) (h : DataW.Trod enc Try.prog w 0 (fun _ => true) true 24 v d p) :
    ∃ o : BeatM, v = .agg #[.int .i64 o.kind, .int .i64 o.who, .int .i64 o.by_] := by
  obtain ⟨cs, rfl, hcs⟩ := okWide_struct Try.underlying24 hval
  rw [Try.cellsBeat] at hcs
  obtain ⟨c0, c1, c2, rfl⟩ : ∃ c0 c1 c2, cs = #[c0, c1, c2] := by
    match cs, hcs with
    | ⟨[c0, c1, c2]⟩, _ => exact ⟨c0, c1, c2, rfl⟩
  obtain ⟨fuel, hf⟩ := h
  obtain ⟨y0, y1, y2, n, hx, hl, h0, h1, h2⟩ := trod_struct3 Try.underlying24 hf
  have h0' : DataW.trod enc Try.prog w 0 (fun _ => true) true n 3 [c0] = some y0 := by rw [Try.cellsInt4] at h0; exact h0
  have h1' : DataW.trod enc Try.prog w 0 (fun _ => true) true n 3 [c1] = some y1 := by rw [Try.cellsInt4] at h1; exact h1
  have h2' : DataW.trod enc Try.prog w 0 (fun _ => true) true n 3 [c2] = some y2 := by rw [Try.cellsInt4] at h2; exact h2
  obtain ⟨x0, rfl⟩ := open_int4 h0'
  obtain ⟨x1, rfl⟩ := open_int4 h1'
  obtain ⟨x2, rfl⟩ := open_int4 h2'
  exact ⟨⟨x0, x1, x2⟩, rfl⟩

set_option maxRecDepth 100000 in
/-- Beats that came in. -/
theorem open_beats {r : Reach} {b0 : Nat} {v : Value} {d : DataW H} {p : List MemPlace} (hval : Value.okWide Try.prog w r b0 22 v) (h : DataW.Trod enc Try.prog w 0 (fun _ => true) true 22 v d p) (hsz : ∀ n ∈ d.weights Try.prog 22, n ≤ reachBytes) :
    ∃ ao cap l, v = .slice ao l.length cap ∧ BeatsAt w ao l ∧ l.length ≤ cap ∧ cap * 24 ≤ 140737488355328 := by
  obtain ⟨a0, n0, c0, rfl⟩ := okWide_slice Try.underlying22 hval
  obtain ⟨fuel, hf⟩ := h
  have hf : DataW.trod enc Try.prog w 0 (fun _ => true) true fuel 22 [.slice a0 n0 c0] = some (d, p) := hf
  have hr : reachBytes = 140737488351232 := rfl
  rcases Open.slice_rows (w := w) Try.underlying22 Try.cellsBeat (by omega) hf with ⟨h1, e⟩ | ⟨a, len, cap, m, D, Pl, h1, hle, hmx, e, hel, hpl⟩
  · rw [h1]
    exact ⟨none, 0, [], rfl, Or.inl rfl, Nat.le_refl _, by omega⟩
  · simp only at e
    rw [e] at hsz
    have hcap := hsz _ (Open.weights_cap Try.underlying22)
    rw [Try.bytesBeat] at hcap
    simp only [List.length_map, List.length_range] at hcap
    obtain ⟨F, hF⟩ := choose_lt (α := BeatM) (n := len) (p := fun i o => w.cell? (a.add (i * 3 + 0)) = some (.int .i64 o.kind) ∧ w.cell? (a.add (i * 3 + 1)) = some (.int .i64 o.who) ∧ w.cell? (a.add (i * 3 + 2)) = some (.int .i64 o.by_)) (fun i hi => by
      obtain ⟨cs', c1, c2, c3⟩ := hel i hi
      obtain ⟨o, rfl⟩ := open_beat c3
      exact ⟨o, c2 0 (by omega), c2 1 (by omega), c2 2 (by omega)⟩)
    have hlen : ((List.range len).map F).length = len := by simp
    refine ⟨some a, cap, (List.range len).map F, (by rw [hlen, h1]), ?_, (by rw [hlen]; exact hle), (by omega)⟩
    by_cases h0 : len = 0
    · left; subst h0; rfl
    · right
      obtain ⟨b, off, rfl, hb⟩ := hpl (by omega)
      refine ⟨b, off, rfl, hb, fun k hk => ?_⟩
      rw [hlen] at hk
      obtain ⟨f0, f1, f2⟩ := hF k hk
      rw [Addr.add_lit] at f0 f1 f2
      simp only [List.getElem_map, List.getElem_range]
      exact ⟨f0, f1, f2⟩
end
end Go.Proofs.Ytnolidjjeknmmaa
