/- OPENING numbers that came in. -/
import Derived.Test.YtnhhjjhhicmfpaaOpen
import Derived.Test.YtnhhjjhhicmfpaaSlFind
namespace Go.Proofs.Ytnhhjjhhicmfpaa
open Go.ChangeShapes Go.WideShapes Go.ChangeAt Go.RowKit Go.ChangeMaps Go.Deep

theorem Try.cellsInt' : Try.prog.cellsOf 3 = 1 := by kernel_rfl
theorem Try.bytesInt' : Try.prog.bytesOf 3 = 8 := by kernel_rfl

section
variable {H : Type} {enc : TypeId × Value → H} {w : World}

theorem open_int1' {n : Nat} {c : Value} {y : DataW H × List MemPlace} (h : DataW.trod enc Try.prog w 0 (fun _ => true) true n 3 [c] = some y) :
    ∃ x : Int, c = .int .i64 x ∧ -9223372036854775808 ≤ x ∧ x ≤ 9223372036854775807 := by
  obtain ⟨x, e, rfl, hw⟩ := DataW.trod_int Try.underlying3 h
  simp only [List.cons.injEq, and_true] at e
  refine ⟨x, e, ?_⟩
  have hw2 : (decide (IntKind.i64.min ≤ x) && decide (x ≤ IntKind.i64.max)) = true := hw
  rw [Bool.and_eq_true, decide_eq_true_eq, decide_eq_true_eq] at hw2
  exact hw2

set_option maxRecDepth 100000 in
/-- Numbers that came in. -/
theorem open_numbers {r : Reach} {b0 : Nat} {v : Value} {d : DataW H} {p : List MemPlace} (hval : Value.okWide Try.prog w r b0 23 v) (h : DataW.Trod enc Try.prog w 0 (fun _ => true) true 23 v d p) (hsz : ∀ n ∈ d.weights Try.prog 23, n ≤ reachBytes) :
    ∃ ao cap l, v = .slice ao l.length cap ∧ (ao = none → cap = 0) ∧ IntsAt w ao l ∧ l.length ≤ cap ∧ cap * 8 ≤ 140737488351232 ∧ ∀ x ∈ l, -9223372036854775808 ≤ x ∧ x ≤ 9223372036854775807 := by
  obtain ⟨a0, n0, c0, rfl⟩ := okWide_slice Try.underlying23 hval
  obtain ⟨fuel, hf⟩ := h
  have hf : DataW.trod enc Try.prog w 0 (fun _ => true) true fuel 23 [.slice a0 n0 c0] = some (d, p) := hf
  have hr : reachBytes = 140737488351232 := rfl
  rcases Open.slice_rows (w := w) Try.underlying23 Try.cellsInt' (by omega) hf with ⟨h1, e⟩ | ⟨a, len, cap, m, D, Pl, h1, hle, hmx, e, hel, hpl⟩
  · rw [h1]
    exact ⟨none, 0, [], rfl, fun _ => rfl, Or.inl rfl, Nat.le_refl _, by omega, by simp⟩
  · simp only at e
    rw [e] at hsz
    have hcap := hsz _ (Open.weights_cap Try.underlying23)
    rw [Try.bytesInt'] at hcap
    simp only [List.length_map, List.length_range] at hcap
    obtain ⟨F, hF⟩ := choose_lt (α := Int) (n := len) (p := fun i o => w.cell? (a.add (i * 1 + 0)) = some (.int .i64 o) ∧ -9223372036854775808 ≤ o ∧ o ≤ 9223372036854775807) (fun i hi => by
      obtain ⟨cs', c1, c2, c3⟩ := hel i hi
      match cs', c1 with
      | [c], _ =>
        obtain ⟨o, rfl, hb⟩ := open_int1' c3
        exact ⟨o, c2 0 (by omega), hb⟩)
    have hlen : ((List.range len).map F).length = len := by simp
    refine ⟨some a, cap, (List.range len).map F, (by rw [hlen, h1]), (fun h => by cases h), ?_, (by rw [hlen]; exact hle), (by omega), fun x hx => ?_⟩
    · by_cases h0 : len = 0
      · left; subst h0; rfl
      · right
        obtain ⟨b, off, rfl, hb⟩ := hpl (by omega)
        refine ⟨b, off, rfl, hb, fun k hk => ?_⟩
        rw [hlen] at hk
        obtain ⟨f0, _⟩ := hF k hk
        rw [Addr.add_lit, Nat.mul_one, Nat.add_zero] at f0
        simp only [List.getElem_map, List.getElem_range]
        exact f0
    · obtain ⟨i, hi, rfl⟩ := List.mem_map.1 hx
      exact (hF i (by simpa using hi)).2
end
end Go.Proofs.Ytnhhjjhhicmfpaa
