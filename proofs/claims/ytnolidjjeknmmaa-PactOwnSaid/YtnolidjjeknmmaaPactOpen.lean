/- OPENING a pact that came in: a leader and two lists. -/
import Derived.Test.YtnolidjjeknmmaaBeatOpen
namespace Go.Proofs.Ytnolidjjeknmmaa
open Go.ChangeShapes Go.WideShapes Go.ChangeAt Go.RowKit Go.ChangeMaps Go.Deep

theorem Try.cellsPact : Try.prog.cellsOf 27 = 3 := by kernel_rfl
theorem Try.cellsInts4 : Try.prog.cellsOf 25 = 1 := by kernel_rfl
theorem Try.bytesInt4 : Try.prog.bytesOf 3 = 8 := by kernel_rfl

section
variable {H : Type} {enc : TypeId × Value → H} {w : World}

theorem open_ints4 {n : Nat} {c : Value} {y : DataW H × List MemPlace} (h : DataW.trod enc Try.prog w 0 (fun _ => true) true n 25 [c] = some y) (hw : ∀ k ∈ y.1.weights Try.prog 25, k ≤ reachBytes) :
    ∃ ao l cap, c = .slice ao l.length cap ∧ (ao = none → cap = 0) ∧ IntsAt w ao l ∧ l.length ≤ 17592186044000 := by
  have hr : reachBytes = 140737488351232 := rfl
  rcases Open.slice_rows (w := w) Try.underlying25 Try.cellsInt4 (by omega) h with ⟨h1, e⟩ | ⟨a, len, cap, m, D, Pl, h1, hle, hmx, e, hel, hpl⟩
  · exact ⟨none, [], 0, h1, fun _ => rfl, Or.inl rfl, by simp⟩
  · rw [e] at hw
    have hcap := hw _ (Open.weights_cap Try.underlying25)
    rw [Try.bytesInt4] at hcap
    simp only [List.length_map, List.length_range] at hcap
    obtain ⟨F, hF⟩ := choose_lt (α := Int) (n := len) (p := fun i o => w.cell? (a.add (i * 1 + 0)) = some (.int .i64 o)) (fun i hi => by
      obtain ⟨cs', c1, c2, c3⟩ := hel i hi
      match cs', c1 with
      | [c], _ =>
        obtain ⟨o, rfl⟩ := open_int4 c3
        exact ⟨o, c2 0 (by omega)⟩)
    have hlen : ((List.range len).map F).length = len := by simp
    refine ⟨some a, (List.range len).map F, cap, (by rw [hlen, h1]), (fun h => by cases h), ?_, by rw [hlen]; omega⟩
    by_cases h0 : len = 0
    · left; subst h0; rfl
    · right
      obtain ⟨b, off, rfl, hb⟩ := hpl (by omega)
      refine ⟨b, off, rfl, hb, fun k hk => ?_⟩
      rw [hlen] at hk
      have f0 := hF k hk
      rw [Addr.add_lit, Nat.mul_one, Nat.add_zero] at f0
      simp only [List.getElem_map, List.getElem_range]
      exact f0

set_option maxRecDepth 100000 in
/-- A pact that came in. -/
theorem open_pact {r : Reach} {b0 : Nat} {v : Value} {d : DataW H} {p : List MemPlace} (hval : Value.okWide Try.prog w r b0 27 v)
    (h : DataW.Trod enc Try.prog w 0 (fun _ => true) true 27 v d p) (hsz : ∀ n ∈ d.weights Try.prog 27, n ≤ reachBytes) :
    ∃ (s : PactSt) (vo : Option Addr) (vc : Nat) (po : Option Addr) (pc : Nat), v = .agg #[.int .i64 s.lead, .slice vo s.votes.length vc, .slice po s.parts.length pc] ∧ IntsAt w vo s.votes ∧ IntsAt w po s.parts ∧ (vo = none → vc = 0) ∧ (po = none → pc = 0) ∧ s.votes.length ≤ 17592186044000 ∧ s.parts.length ≤ 17592186044000 := by
  obtain ⟨cs, rfl, hcs⟩ := okWide_struct Try.underlying27 hval
  rw [Try.cellsPact] at hcs
  obtain ⟨c0, c1, c2, rfl⟩ : ∃ c0 c1 c2, cs = #[c0, c1, c2] := by
    match cs, hcs with
    | ⟨[c0, c1, c2]⟩, _ => exact ⟨c0, c1, c2, rfl⟩
  obtain ⟨fuel, hf⟩ := h
  obtain ⟨y0, y1, y2, n, hx, hl, h0, h1, h2⟩ := trod_struct3 Try.underlying27 hf
  simp only [Prod.mk.injEq] at hx
  obtain ⟨rfl, rfl⟩ := hx
  have h0' : DataW.trod enc Try.prog w 0 (fun _ => true) true n 3 [c0] = some y0 := by rw [Try.cellsInt4] at h0; exact h0
  have h1' : DataW.trod enc Try.prog w 0 (fun _ => true) true n 25 [c1] = some y1 := by rw [Try.cellsInts4] at h1; exact h1
  have h2' : DataW.trod enc Try.prog w 0 (fun _ => true) true n 25 [c2] = some y2 := by rw [Try.cellsInts4] at h2; exact h2
  obtain ⟨x0, rfl⟩ := open_int4 h0'
  have hw : ∀ k, k ∈ DataW.weightsEach Try.prog [3, 25, 25] [y0.1, y1.1, y2.1] → k ≤ reachBytes := by
    intro k hk
    refine hsz k ?_
    rw [DataW.weights, Try.underlying27]
    exact hk
  obtain ⟨vo, l1, vc, rfl, nv, hv, lv⟩ := open_ints4 h1' (fun k hk => hw k (by
    rw [DataW.weightsEach]
    refine List.mem_append.2 (Or.inr ?_)
    rw [DataW.weightsEach]
    exact List.mem_append.2 (Or.inl hk)))
  obtain ⟨po, l2, pc, rfl, np, hp, lp⟩ := open_ints4 h2' (fun k hk => hw k (by
    rw [DataW.weightsEach]
    refine List.mem_append.2 (Or.inr ?_)
    rw [DataW.weightsEach]
    refine List.mem_append.2 (Or.inr ?_)
    rw [DataW.weightsEach]
    exact List.mem_append.2 (Or.inl hk)))
  exact ⟨⟨x0, l1, l2⟩, vo, vc, po, pc, rfl, hv, hp, nv, np, lv, lp⟩
end
end Go.Proofs.Ytnolidjjeknmmaa
