/- OPENING room in halves: an order and a slice of blocks. -/
import Derived.Test.YtfmgncfikaefhaaOpen
import Derived.Test.YtfmgncfikaefhaaOpsOpen
import Derived.Test.YtfmgncfikaefhaaBud
namespace Go.Proofs.Ytfmgncfikaefhaa
open Go.ChangeShapes Go.WideShapes Go.ChangeAt Go.RowKit Go.ChangeMaps Go.Deep

theorem Try.cellsBk : Try.prog.cellsOf 73 = 2 := by kernel_rfl
theorem Try.cellsBuddy : Try.prog.cellsOf 69 = 2 := by kernel_rfl
theorem Try.cellsBks : Try.prog.cellsOf 67 = 1 := by kernel_rfl
theorem Try.bytesBk : Try.prog.bytesOf 73 = 16 := by kernel_rfl

section
variable {H : Type} {enc : TypeId × Value → H} {w : World}

set_option maxRecDepth 100000 in
theorem open_bk {n : Nat} {cs : List Value} {x : DataW H × List MemPlace} (h : DataW.trod enc Try.prog w 0 (fun _ => true) true n 73 cs = some x) :
    ∃ o : BkM, cs = [.int .i64 o.at_, .int .i64 o.ord] := by
  obtain ⟨y0, y1, m, rfl, hl, h0, h1⟩ := trod_struct2 Try.underlying73 h
  rw [Try.cellsBk] at hl
  match cs, hl with
  | [c0, c1], _ =>
    simp only [Try.cellsInt, List.drop_zero, List.take_succ_cons, List.take_zero, List.drop_succ_cons] at h0 h1
    obtain ⟨x0, rfl, _⟩ := open_int1 h0
    obtain ⟨x1, rfl, _⟩ := open_int1 h1
    exact ⟨⟨x0, x1⟩, rfl⟩

set_option maxRecDepth 100000 in
/-- Room that came in. -/
theorem open_buddy {r : Reach} {b0 : Nat} {v : Value} {d : DataW H} {p : List MemPlace} (hval : Value.okWide Try.prog w r b0 69 v)
    (h : DataW.Trod enc Try.prog w 0 (fun _ => true) true 69 v d p) (hsz : ∀ n ∈ d.weights Try.prog 69, n ≤ reachBytes) :
    ∃ n ao cap ls, v = .agg #[.int .i64 n, .slice ao ls.length cap] ∧ (ao = none → cap = 0) ∧ BksAt w ao ls ∧ ls.length ≤ 8796093022000 := by
  obtain ⟨cs, rfl, hcs⟩ := okWide_struct Try.underlying69 hval
  rw [Try.cellsBuddy] at hcs
  obtain ⟨c0, c1, rfl⟩ : ∃ c0 c1, cs = #[c0, c1] := by
    match cs, hcs with
    | ⟨[c0, c1]⟩, _ => exact ⟨c0, c1, rfl⟩
  obtain ⟨fuel, hf⟩ := h
  obtain ⟨y0, y1, n, hx, hl, h0, h1⟩ := trod_struct2 Try.underlying69 hf
  simp only [Prod.mk.injEq] at hx
  obtain ⟨rfl, rfl⟩ := hx
  have h0' : DataW.trod enc Try.prog w 0 (fun _ => true) true n 3 [c0] = some y0 := by
    rw [Try.cellsInt] at h0
    exact h0
  have h1' : DataW.trod enc Try.prog w 0 (fun _ => true) true n 67 [c1] = some y1 := by
    rw [Try.cellsBks] at h1
    exact h1
  obtain ⟨x0, rfl, _⟩ := open_int1 h0'
  have hw : ∀ k ∈ y1.1.weights Try.prog 67, k ≤ reachBytes := by
    intro k hk
    refine hsz k ?_
    rw [DataW.weights, Try.underlying69]
    show k ∈ DataW.weightsEach Try.prog [3, 67] [y0.1, y1.1]
    rw [DataW.weightsEach]
    refine List.mem_append.2 (Or.inr ?_)
    rw [DataW.weightsEach]
    exact List.mem_append.2 (Or.inl hk)
  have hr : reachBytes = 140737488351232 := rfl
  rcases Open.slice_rows (w := w) Try.underlying67 Try.cellsBk (by omega) h1' with ⟨rfl, e⟩ | ⟨a, len, cap, m, D, Pl, rfl, hle, hmx, e, hel, hpl⟩
  · exact ⟨x0, none, 0, [], rfl, fun _ => rfl, Or.inl rfl, by simp⟩
  · rw [e] at hw
    have hcap := hw _ (Open.weights_cap Try.underlying67)
    rw [Try.bytesBk] at hcap
    simp only [List.length_map, List.length_range] at hcap
    obtain ⟨F, hF⟩ := choose_lt (α := BkM) (n := len) (p := fun i s => w.cell? (a.add (i * 2 + 0)) = some (.int .i64 s.at_) ∧ w.cell? (a.add (i * 2 + 1)) = some (.int .i64 s.ord)) (fun i hi => by
      obtain ⟨cs', c1, c2, c3⟩ := hel i hi
      obtain ⟨o, rfl⟩ := open_bk c3
      exact ⟨o, c2 0 (by omega), c2 1 (by omega)⟩)
    have hlen : ((List.range len).map F).length = len := by simp
    refine ⟨x0, some a, cap, (List.range len).map F, (by rw [hlen]), (fun h => by cases h), ?_, (by rw [hlen]; omega)⟩
    by_cases h0 : len = 0
    · left; subst h0; rfl
    · right
      obtain ⟨b, off, rfl, hb⟩ := hpl (by omega)
      refine ⟨b, off, rfl, hb, fun k hk => ?_⟩
      rw [hlen] at hk
      obtain ⟨f1, f2⟩ := hF k hk
      rw [Addr.add_lit] at f1 f2
      simp only [List.getElem_map, List.getElem_range]
      exact ⟨f1, f2⟩
end
end Go.Proofs.Ytfmgncfikaefhaa
