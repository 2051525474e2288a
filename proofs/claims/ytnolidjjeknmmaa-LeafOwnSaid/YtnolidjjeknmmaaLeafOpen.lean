/- OPENING a page. -/
import Derived.Test.YtnolidjjeknmmaaOpen
import Derived.Test.YtnolidjjeknmmaaLeafCheck
namespace Go.Proofs.Ytnolidjjeknmmaa
open Go.ChangeShapes Go.WideShapes Go.ChangeAt Go.RowKit Go.ChangeMaps Go.Deep

theorem Try.cellsSlot : Try.prog.cellsOf 54 = 2 := by kernel_rfl
theorem Try.cellsLeaf : Try.prog.cellsOf 50 = 1 := by kernel_rfl
theorem Try.cellsSlots : Try.prog.cellsOf 48 = 1 := by kernel_rfl
theorem Try.cellsBool : Try.prog.cellsOf 4 = 1 := by kernel_rfl
theorem Try.cellsString : Try.prog.cellsOf 9 = 1 := by kernel_rfl
theorem Try.bytesSlot : Try.prog.bytesOf 54 = 24 := by kernel_rfl

section
variable {H : Type} {enc : TypeId × Value → H} {w : World}

set_option maxRecDepth 20000 in
theorem open_slot {n : Nat} {cs : List Value} {x : DataW H × List MemPlace} (h : DataW.trod enc Try.prog w 0 (fun _ => true) true n 54 cs = some x) :
    ∃ (u : Bool) (s : ByteArray), cs = [.bool u, .string s] ∧ x.1 = .agg [.lit (.bool u), .lit (.string s.data.toList)] := by
  obtain ⟨y0, y1, m, rfl, hl, h0, h1⟩ := trod_struct2 Try.underlying54 h
  rw [Try.cellsSlot] at hl
  match cs, hl with
  | [c0, c1], _ =>
    simp only [Try.cellsBool, Try.cellsString, List.drop_zero, List.take_succ_cons, List.take_zero, List.drop_succ_cons] at h0 h1
    obtain ⟨u, e0, rfl⟩ := DataW.trod_bool Try.underlying4 h0
    obtain ⟨s, e1, rfl, _⟩ := DataW.trod_string Try.underlying9 h1
    simp only [List.cons.injEq, and_true] at e0 e1
    subst e0; subst e1
    exact ⟨u, s, rfl, rfl⟩

set_option maxRecDepth 20000 in
/-- A page that came in: its slice, its slots, how great they are. -/
theorem open_leaf {r : Reach} {b0 : Nat} {v : Value} {d : DataW H} {p : List MemPlace} (hval : Value.okWide Try.prog w r b0 50 v)
    (h : DataW.Trod enc Try.prog w 0 (fun _ => true) true 50 v d p) (hsz : ∀ n ∈ d.weights Try.prog 50, n ≤ reachBytes) :
    ∃ ao cap ls, v = .agg #[.slice ao ls.length cap] ∧ (ao = none → cap = 0) ∧ LeafM.At w ao ls ∧ LeafM.Fits ls ∧ ls.length ≤ cap ∧ cap * 24 ≤ 140737488355328 := by
  obtain ⟨cs, rfl, hcs⟩ := okWide_struct Try.underlying50 hval
  rw [Try.cellsLeaf] at hcs
  obtain ⟨c0, rfl⟩ : ∃ c0, cs = #[c0] := by
    match cs, hcs with
    | ⟨[c0]⟩, _ => exact ⟨c0, rfl⟩
  obtain ⟨fuel, hf⟩ := h
  obtain ⟨y0, n, hx, hl, h0⟩ := trod_struct1 Try.underlying50 hf
  simp only [Prod.mk.injEq] at hx
  obtain ⟨rfl, rfl⟩ := hx
  have h1 : DataW.trod enc Try.prog w 0 (fun _ => true) true n 48 [c0] = some y0 := by
    rw [Try.cellsSlots] at h0
    exact h0
  have hw : ∀ k ∈ y0.1.weights Try.prog 48, k ≤ reachBytes := by
    intro k hk
    refine hsz k ?_
    rw [DataW.weights, Try.underlying50]
    show k ∈ DataW.weightsEach Try.prog [48] [y0.1]
    rw [DataW.weightsEach]
    exact List.mem_append.2 (Or.inl hk)
  have hr : reachBytes = 140737488351232 := rfl
  rcases Open.slice_rows (w := w) Try.underlying48 Try.cellsSlot (by omega) h1 with ⟨rfl, e⟩ | ⟨a, len, cap, m, D, Pl, rfl, hle, hmx, e, hel, hpl⟩
  · exact ⟨none, 0, [], rfl, fun _ => rfl, Or.inl rfl, ⟨by simp, by simp⟩, Nat.le_refl _, by omega⟩
  · rw [e] at hw
    have hcap := hw _ (Open.weights_cap Try.underlying48)
    rw [Try.bytesSlot] at hcap
    simp only [List.length_map, List.length_range] at hcap
    obtain ⟨F, hF⟩ := choose_lt (α := Bool × ByteArray) (n := len) (p := fun i s => D i = .agg [.lit (.bool s.1), .lit (.string s.2.data.toList)] ∧
        w.cell? (a.add (i * 2 + 0)) = some (.bool s.1) ∧ w.cell? (a.add (i * 2 + 1)) = some (.string s.2)) (fun i hi => by
      obtain ⟨cs', c1, c2, c3⟩ := hel i hi
      obtain ⟨u, t, rfl, hd⟩ := open_slot c3
      exact ⟨(u, t), hd, c2 0 (by omega), c2 1 (by omega)⟩)
    have hlen : ((List.range len).map F).length = len := by simp
    refine ⟨some a, cap, (List.range len).map F, (by rw [hlen]), (fun h => by cases h), ?_, ⟨(by rw [hlen]; omega), ?_⟩, (by rw [hlen]; exact hle), (by omega)⟩
    · by_cases h0 : len = 0
      · left; subst h0; rfl
      · right
        obtain ⟨b, off, rfl, hb⟩ := hpl (by omega)
        refine ⟨b, off, rfl, hb, fun k hk => ?_⟩
        rw [hlen] at hk
        obtain ⟨_, f1, f2⟩ := hF k hk
        rw [Addr.add_lit] at f1 f2
        simp only [List.getElem_map, List.getElem_range]
        exact ⟨f1, f2⟩
    · intro s hs
      obtain ⟨i, hi, rfl⟩ := List.mem_map.1 hs
      have hi' : i < len := by simpa using hi
      obtain ⟨hd, _, _⟩ := hF i hi'
      have := hw (F i).2.data.toList.length (Open.weights_slice (d := D i) Try.underlying48 (List.mem_map.2 ⟨i, hi, rfl⟩) (by
        rw [hd, DataW.weights, Try.underlying54]
        show _ ∈ DataW.weightsEach Try.prog [4, 9] _
        simp [DataW.weightsEach, DataW.weights]))
      have e2 : (F i).2.data.toList.length = (F i).2.size := rfl
      omega
end
end Go.Proofs.Ytnolidjjeknmmaa
