/- OPENING texts that came in. -/
import Derived.Test.YtpeaefeoogcepaaDoorOpen
import Derived.Test.YtpeaefeoogcepaaDoorStrEq
import Derived.Lib.SmallJoins
import Derived.DataShut
namespace Go.Proofs.YtpeaefeoogcepaaDoor
open Go.ChangeShapes Go.WideShapes Go.ChangeAt Go.RowKit Go.ChangeMaps Go.Deep

theorem Tryd.cellsStrO : Tryd.prog.cellsOf 9 = 1 := by kernel_rfl
theorem Tryd.bytesStrO : Tryd.prog.bytesOf 9 = 16 := by kernel_rfl
section
variable {H : Type} {enc : TypeId × Value → H} {w : World}
set_option maxRecDepth 100000 in
/-- Texts that came in. -/
theorem open_strs {r : Reach} {b0 : Nat} {v : Value} {d : DataW H} {p : List MemPlace} (hval : Value.okWide Tryd.prog w r b0 22 v) (h : DataW.Trod enc Tryd.prog w 0 (fun _ => true) true 22 v d p) (hsz : ∀ n ∈ d.weights Tryd.prog 22, n ≤ reachBytes) :
    ∃ ao cap L, v = .slice ao L.length cap ∧ StrsAt w ao L ∧ (∀ s ∈ L, s.size ≤ 9223372036854775807) ∧ L.length ≤ 9000000000000 := by
  obtain ⟨a0, n0, c0, rfl⟩ := okWide_slice Tryd.underlying22 hval
  obtain ⟨fuel, hf⟩ := h
  have hf : DataW.trod enc Tryd.prog w 0 (fun _ => true) true fuel 22 [.slice a0 n0 c0] = some (d, p) := hf
  have hr : reachBytes = 140737488351232 := rfl
  rcases Open.slice_rows (w := w) Tryd.underlying22 Tryd.cellsStrO (by omega) hf with ⟨h1, e⟩ | ⟨a, len, cap, m, D, Pl, h1, hle, hmx, e, hel, hpl⟩
  · rw [h1]
    exact ⟨none, 0, [], rfl, Or.inl rfl, by simp, Nat.zero_le _⟩
  · simp only at e
    rw [e] at hsz
    have hcap := hsz _ (Open.weights_cap Tryd.underlying22)
    rw [Tryd.bytesStrO] at hcap
    simp only [List.length_map, List.length_range] at hcap
    obtain ⟨F, hF⟩ := choose_lt (α := ByteArray) (n := len) (p := fun i o => w.cell? (a.add (i * 1 + 0)) = some (.string o) ∧ o.size ≤ 9223372036854775807) (fun i hi => by
      obtain ⟨cs', c1, c2, c3⟩ := hel i hi
      match cs', c1 with
      | [c], _ =>
        obtain ⟨s, e2, _, hw2⟩ := DataW.trod_string Tryd.underlying9 c3
        simp only [List.cons.injEq, and_true] at e2
        subst e2
        exact ⟨s, c2 0 (by omega), by unfold maxLen at hw2; omega⟩)
    have hlen : ((List.range len).map F).length = len := by simp
    refine ⟨some a, cap, (List.range len).map F, (by rw [hlen, h1]), ?_, fun x hx => ?_, (by rw [hlen]; omega)⟩
    · by_cases h0 : len = 0
      · left; subst h0; rfl
      · right
        obtain ⟨b, off, rfl, hb⟩ := hpl (by omega)
        refine ⟨b, off, rfl, hb, fun k hk => ?_⟩
        rw [hlen] at hk
        have f0 := (hF k hk).1
        rw [Addr.add_lit, Nat.mul_one, Nat.add_zero] at f0
        simp only [List.getElem_map, List.getElem_range]
        exact f0
    · obtain ⟨i, hi, rfl⟩ := List.mem_map.1 hx
      exact (hF i (by simpa using hi)).2
end
end Go.Proofs.YtpeaefeoogcepaaDoor
