/- OPENING tries that came in: their lists, too. -/
import Derived.Test.YtlmibgjflgkalaaOpen
import Derived.Test.YtlmibgjflgkalaaHopeW
import Derived.Deep.Strs
import Derived.Lib.SmallJoins
namespace Go.Proofs.Ytlmibgjflgkalaa
open Go.ChangeShapes Go.WideShapes Go.ChangeAt Go.RowKit Go.ChangeMaps Go.Deep

theorem Try.cellsTry : Try.prog.cellsOf 84 = 4 := by kernel_rfl
theorem Try.cellsInt3 : Try.prog.cellsOf 3 = 1 := by kernel_rfl
theorem Try.cellsInts3 : Try.prog.cellsOf 31 = 1 := by kernel_rfl
theorem Try.bytesTry : Try.prog.bytesOf 84 = 64 := by kernel_rfl

section
variable {H : Type} {enc : TypeId × Value → H} {w : World}

theorem open_int3 {n : Nat} {c : Value} {y : DataW H × List MemPlace} (h : DataW.trod enc Try.prog w 0 (fun _ => true) true n 3 [c] = some y) :
    ∃ x : Int, c = .int .i64 x := by
  obtain ⟨x, e, rfl, hw⟩ := DataW.trod_int Try.underlying3 h
  simp only [List.cons.injEq, and_true] at e
  exact ⟨x, e⟩

theorem open_ints_in {n : Nat} {c : Value} {y : DataW H × List MemPlace} (h : DataW.trod enc Try.prog w 0 (fun _ => true) true n 31 [c] = some y) :
    ∃ ao l cap, c = .slice ao l.length cap ∧ (ao = none → cap = 0) ∧ IntsAt w ao l := by
  rcases Open.slice_rows (w := w) Try.underlying31 Try.cellsInt3 (by omega) h with ⟨h1, e⟩ | ⟨a, len, cap, m, D, Pl, h1, hle, hmx, e, hel, hpl⟩
  · exact ⟨none, [], 0, h1, fun _ => rfl, Or.inl rfl⟩
  · obtain ⟨F, hF⟩ := choose_lt (α := Int) (n := len) (p := fun i o => w.cell? (a.add (i * 1 + 0)) = some (.int .i64 o)) (fun i hi => by
      obtain ⟨cs', c1, c2, c3⟩ := hel i hi
      match cs', c1 with
      | [c], _ =>
        obtain ⟨o, rfl⟩ := open_int3 c3
        exact ⟨o, c2 0 (by omega)⟩)
    have hlen : ((List.range len).map F).length = len := by simp
    refine ⟨some a, (List.range len).map F, cap, (by rw [hlen, h1]), (fun h => by cases h), ?_⟩
    by_cases h0 : len = 0
    · left; subst h0; rfl
    · right
      obtain ⟨b, off, rfl, hb⟩ := hpl (by omega)
      refine ⟨b, off, rfl, hb, fun k hk => ?_⟩
      rw [hlen] at hk
      have f0 := hF k hk
      rw [Addr.add_lit, Nat.mul_one, Nat.add_zero] at f0
      simp only [List.getElem_map, List.getElem_range]
      exact f0

set_option maxRecDepth 100000 in
theorem open_try {n : Nat} {cs : List Value} {x : DataW H × List MemPlace} (h : DataW.trod enc Try.prog w 0 (fun _ => true) true n 84 cs = some x) :
    ∃ o : TryL, cs = o.cells ∧ o.Sl w := by
  obtain ⟨y0, y1, y2, y3, m, rfl, hl, h0, h1, h2, h3⟩ := Go.Joins.trod_struct4 Try.underlying84 h
  rw [Try.cellsTry] at hl
  match cs, hl with
  | [c0, c1, c2, c3], _ =>
    simp only [Try.cellsInt3, Try.cellsInts3, List.drop_zero, List.take_succ_cons, List.take_zero, List.drop_succ_cons] at h0 h1 h2 h3
    obtain ⟨x0, rfl⟩ := open_int3 h0
    obtain ⟨x1, rfl⟩ := open_int3 h1
    obtain ⟨ra, rd, rc, rfl, r1, r2⟩ := open_ints_in h2
    obtain ⟨wa, wrs, wc, rfl, r3, r4⟩ := open_ints_in h3
    exact ⟨⟨⟨x0, x1, rd, wrs⟩, ra, rc, wa, wc⟩, rfl, r2, r4, r1, r3⟩

set_option maxRecDepth 100000 in
/-- Tries that came in. -/
theorem open_tries {r : Reach} {b0 : Nat} {v : Value} {d : DataW H} {p : List MemPlace} (hval : Value.okWide Try.prog w r b0 79 v) (h : DataW.Trod enc Try.prog w 0 (fun _ => true) true 79 v d p) (hsz : ∀ n ∈ d.weights Try.prog 79, n ≤ reachBytes) :
    ∃ ao cap L, v = .slice ao L.length cap ∧ TriesAt w ao L ∧ L.length ≤ cap ∧ cap * 64 ≤ 140737488355328 := by
  obtain ⟨a0, n0, c0, rfl⟩ := okWide_slice Try.underlying79 hval
  obtain ⟨fuel, hf⟩ := h
  have hf : DataW.trod enc Try.prog w 0 (fun _ => true) true fuel 79 [.slice a0 n0 c0] = some (d, p) := hf
  have hr : reachBytes = 140737488351232 := rfl
  rcases Open.slice_rows (w := w) Try.underlying79 Try.cellsTry (by omega) hf with ⟨h1, e⟩ | ⟨a, len, cap, m, D, Pl, h1, hle, hmx, e, hel, hpl⟩
  · rw [h1]
    exact ⟨none, 0, [], rfl, ⟨by simp, Or.inl rfl⟩, Nat.le_refl _, by omega⟩
  · simp only at e
    rw [e] at hsz
    have hcap := hsz _ (Open.weights_cap Try.underlying79)
    rw [Try.bytesTry] at hcap
    simp only [List.length_map, List.length_range] at hcap
    obtain ⟨F, hF⟩ := choose_lt (α := TryL) (n := len) (p := fun i o => (w.cell? (a.add (i * 4 + 0)) = some (.int .i64 o.t.st) ∧ w.cell? (a.add (i * 4 + 1)) = some (.int .i64 o.t.en) ∧ w.cell? (a.add (i * 4 + 2)) = some (.slice o.ra o.t.rd.length o.rc) ∧ w.cell? (a.add (i * 4 + 3)) = some (.slice o.wa o.t.wr.length o.wc)) ∧ o.Sl w) (fun i hi => by
      obtain ⟨cs', c1, c2, c3⟩ := hel i hi
      obtain ⟨o, rfl, hs⟩ := open_try c3
      exact ⟨o, ⟨c2 0 (by omega), c2 1 (by omega), c2 2 (by omega), c2 3 (by omega)⟩, hs⟩)
    have hlen : ((List.range len).map F).length = len := by simp
    refine ⟨some a, cap, (List.range len).map F, (by rw [hlen, h1]), ⟨fun x hx => ?_, ?_⟩, (by rw [hlen]; exact hle), (by omega)⟩
    · obtain ⟨i, hi, rfl⟩ := List.mem_map.1 hx
      exact (hF i (by simpa using hi)).2
    · by_cases h0 : len = 0
      · left; subst h0; rfl
      · right
        obtain ⟨b, off, rfl, hb⟩ := hpl (by omega)
        refine ⟨b, off, rfl, hb, fun k hk => ?_⟩
        rw [hlen] at hk
        obtain ⟨⟨f0, f1, f2, f3⟩, _⟩ := hF k hk
        rw [Addr.add_lit] at f0 f1 f2 f3
        simp only [List.getElem_map, List.getElem_range]
        exact ⟨f0, f1, f2, f3⟩
end
end Go.Proofs.Ytlmibgjflgkalaa
