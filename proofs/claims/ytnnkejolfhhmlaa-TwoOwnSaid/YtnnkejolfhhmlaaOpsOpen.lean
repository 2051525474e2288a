/- OPENING a run: a slice of operations that came in. -/
import Derived.Test.YtnnkejolfhhmlaaOpen
import Derived.Test.YtnnkejolfhhmlaaChkI
import Derived.Deep.Strs
namespace Go.Proofs.Ytnnkejolfhhmlaa
open Go.ChangeShapes Go.WideShapes Go.ChangeAt Go.RowKit Go.ChangeMaps Go.Deep

theorem Try.cellsOp : Try.prog.cellsOf 30 = 3 := by kernel_rfl
theorem Try.cellsInt : Try.prog.cellsOf 3 = 1 := by kernel_rfl
theorem Try.bytesOp : Try.prog.bytesOf 30 = 24 := by kernel_rfl

section
variable {H : Type} {enc : TypeId × Value → H} {w : World}

theorem open_int1 {n : Nat} {c : Value} {y : DataW H × List MemPlace} (h : DataW.trod enc Try.prog w 0 (fun _ => true) true n 3 [c] = some y) :
    ∃ x : Int, c = .int .i64 x ∧ -9223372036854775808 ≤ x ∧ x ≤ 9223372036854775807 := by
  obtain ⟨x, e, rfl, hw⟩ := DataW.trod_int Try.underlying3 h
  simp only [List.cons.injEq, and_true] at e
  refine ⟨x, e, ?_⟩
  have hw2 : (decide (IntKind.i64.min ≤ x) && decide (x ≤ IntKind.i64.max)) = true := hw
  rw [Bool.and_eq_true, decide_eq_true_eq, decide_eq_true_eq] at hw2
  exact hw2

set_option maxRecDepth 100000 in
theorem open_op {n : Nat} {cs : List Value} {x : DataW H × List MemPlace} (h : DataW.trod enc Try.prog w 0 (fun _ => true) true n 30 cs = some x) :
    ∃ o : OpM, cs = [.int .i64 o.tx, .int .i64 o.kind, .int .i64 o.item] ∧ (-9223372036854775808 ≤ o.tx ∧ o.tx ≤ 9223372036854775807 ∧ -9223372036854775808 ≤ o.kind ∧ o.kind ≤ 9223372036854775807 ∧ -9223372036854775808 ≤ o.item ∧ o.item ≤ 9223372036854775807) := by
  obtain ⟨y0, y1, y2, m, rfl, hl, h0, h1, h2⟩ := trod_struct3 Try.underlying30 h
  rw [Try.cellsOp] at hl
  match cs, hl with
  | [c0, c1, c2], _ =>
    simp only [Try.cellsInt, List.drop_zero, List.take_succ_cons, List.take_zero, List.drop_succ_cons] at h0 h1 h2
    obtain ⟨x0, rfl, a0, b0⟩ := open_int1 h0
    obtain ⟨x1, rfl, a1, b1⟩ := open_int1 h1
    obtain ⟨x2, rfl, a2, b2⟩ := open_int1 h2
    exact ⟨⟨x0, x1, x2⟩, rfl, a0, b0, a1, b1, a2, b2⟩

set_option maxRecDepth 100000 in
/-- A run that came in. -/
theorem open_ops {r : Reach} {b0 : Nat} {v : Value} {d : DataW H} {p : List MemPlace} (hval : Value.okWide Try.prog w r b0 22 v) (h : DataW.Trod enc Try.prog w 0 (fun _ => true) true 22 v d p) (hsz : ∀ n ∈ d.weights Try.prog 22, n ≤ reachBytes) :
    ∃ ao cap l, v = .slice ao l.length cap ∧ (ao = none → cap = 0) ∧ OpsAt w ao l ∧ RunM.Fits l ∧ l.length ≤ cap ∧ cap * 24 ≤ 140737488355328 := by
  obtain ⟨a0, n0, c0, rfl⟩ := okWide_slice Try.underlying22 hval
  obtain ⟨fuel, hf⟩ := h
  have hf : DataW.trod enc Try.prog w 0 (fun _ => true) true fuel 22 [.slice a0 n0 c0] = some (d, p) := hf
  have hr : reachBytes = 140737488351232 := rfl
  rcases Open.slice_rows (w := w) Try.underlying22 Try.cellsOp (by omega) hf with ⟨h1, e⟩ | ⟨a, len, cap, m, D, Pl, h1, hle, hmx, e, hel, hpl⟩
  · rw [h1]
    exact ⟨none, 0, [], rfl, fun _ => rfl, Or.inl rfl, ⟨by simp, by simp⟩, Nat.le_refl _, by omega⟩
  · simp only at e
    rw [e] at hsz
    have hcap := hsz _ (Open.weights_cap Try.underlying22)
    rw [Try.bytesOp] at hcap
    simp only [List.length_map, List.length_range] at hcap
    obtain ⟨F, hF⟩ := choose_lt (α := OpM) (n := len) (p := fun i o => (w.cell? (a.add (i * 3 + 0)) = some (.int .i64 o.tx) ∧ w.cell? (a.add (i * 3 + 1)) = some (.int .i64 o.kind) ∧ w.cell? (a.add (i * 3 + 2)) = some (.int .i64 o.item)) ∧
        (-9223372036854775808 ≤ o.tx ∧ o.tx ≤ 9223372036854775807 ∧ -9223372036854775808 ≤ o.kind ∧ o.kind ≤ 9223372036854775807 ∧ -9223372036854775808 ≤ o.item ∧ o.item ≤ 9223372036854775807)) (fun i hi => by
      obtain ⟨cs', c1, c2, c3⟩ := hel i hi
      obtain ⟨o, rfl, hb⟩ := open_op c3
      exact ⟨o, ⟨c2 0 (by omega), c2 1 (by omega), c2 2 (by omega)⟩, hb⟩)
    have hlen : ((List.range len).map F).length = len := by simp
    refine ⟨some a, cap, (List.range len).map F, (by rw [hlen, h1]), (fun h => by cases h), ?_, ⟨(by rw [hlen]; omega), ?_⟩, (by rw [hlen]; exact hle), (by omega)⟩
    · by_cases h0 : len = 0
      · left; subst h0; rfl
      · right
        obtain ⟨b, off, rfl, hb⟩ := hpl (by omega)
        refine ⟨b, off, rfl, hb, fun k hk => ?_⟩
        rw [hlen] at hk
        obtain ⟨⟨f0, f1, f2⟩, _⟩ := hF k hk
        rw [Addr.add_lit] at f0 f1 f2
        simp only [List.getElem_map, List.getElem_range]
        exact ⟨f0, f1, f2⟩
    · intro s hs
      obtain ⟨i, hi, rfl⟩ := List.mem_map.1 hs
      have hi' : i < len := by simpa using hi
      exact (hF i hi').2
end
end Go.Proofs.Ytnnkejolfhhmlaa
