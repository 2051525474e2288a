/- OPENING a table of locks that came in: its lists, too. -/
import Derived.Test.YtjbmkhalmmahkaaOpen
import Derived.Test.YtjbmkhalmmahkaaLkOwnM
import Derived.Deep.Strs
namespace Go.Proofs.Ytjbmkhalmmahkaa
open Go.ChangeShapes Go.WideShapes Go.ChangeAt Go.RowKit Go.ChangeMaps Go.Deep

theorem Try.cellsLkO : Try.prog.cellsOf 28 = 2 := by kernel_rfl
theorem Try.cellsLiO : Try.prog.cellsOf 32 = 3 := by kernel_rfl
theorem Try.cellsIntO : Try.prog.cellsOf 3 = 1 := by kernel_rfl
theorem Try.cellsLksO : Try.prog.cellsOf 30 = 1 := by kernel_rfl
theorem Try.bytesLkO : Try.prog.bytesOf 28 = 16 := by kernel_rfl
theorem Try.bytesLiO : Try.prog.bytesOf 32 = 56 := by kernel_rfl

/-- A table of locks that came in; v: its lists' values. -/
structure LkM.InV (w : World) (ao : Option Addr) (t : List LiM) (v : Nat → Value) : Prop where
  cells : t = [] ∨ ∃ b off, ao = some ⟨b, off, none⟩ ∧ b < w.heap.size ∧ ∀ k (h : k < t.length), w.cell? ⟨b, off + k * 3, none⟩ = some (.int .i64 t[k].item) ∧ w.cell? ⟨b, off + k * 3 + 1, none⟩ = some (v (2 * k)) ∧ w.cell? ⟨b, off + k * 3 + 2, none⟩ = some (v (2 * k + 1))
  rows : ∀ i, i < 2 * t.length → ∃ a c, v i = .slice a (LkM.row t i).length c ∧ LksAt w a (LkM.row t i) ∧ (a = none → c = 0) ∧ (LkM.row t i).length ≤ 8796093022000

section
variable {H : Type} {enc : TypeId × Value → H} {w : World}

theorem open_intO {n : Nat} {c : Value} {y : DataW H × List MemPlace} (h : DataW.trod enc Try.prog w 0 (fun _ => true) true n 3 [c] = some y) :
    ∃ x : Int, c = .int .i64 x := by
  obtain ⟨x, e, rfl, hw⟩ := DataW.trod_int Try.underlying3 h
  simp only [List.cons.injEq, and_true] at e
  exact ⟨x, e⟩
set_option maxRecDepth 100000 in
theorem open_lkO {n : Nat} {cs : List Value} {x : DataW H × List MemPlace} (h : DataW.trod enc Try.prog w 0 (fun _ => true) true n 28 cs = some x) :
    ∃ o : LkM, cs = [.int .i64 o.tx, .int .i64 o.mode] := by
  obtain ⟨y0, y1, m, rfl, hl, h0, h1⟩ := trod_struct2 Try.underlying28 h
  rw [Try.cellsLkO] at hl
  match cs, hl with
  | [c0, c1], _ =>
    simp only [Try.cellsIntO, List.drop_zero, List.take_succ_cons, List.take_zero, List.drop_succ_cons] at h0 h1
    obtain ⟨x0, rfl⟩ := open_intO h0
    obtain ⟨x1, rfl⟩ := open_intO h1
    exact ⟨⟨x0, x1⟩, rfl⟩
theorem open_lksO {n : Nat} {c : Value} {y : DataW H × List MemPlace} (h : DataW.trod enc Try.prog w 0 (fun _ => true) true n 30 [c] = some y) (hw : ∀ k ∈ y.1.weights Try.prog 30, k ≤ reachBytes) :
    ∃ ao l cap, c = .slice ao l.length cap ∧ (ao = none → cap = 0) ∧ LksAt w ao l ∧ l.length ≤ 8796093022000 := by
  have hr : reachBytes = 140737488351232 := rfl
  rcases Open.slice_rows (w := w) Try.underlying30 Try.cellsLkO (by omega) h with ⟨h1, e⟩ | ⟨a, len, cap, m, D, Pl, h1, hle, hmx, e, hel, hpl⟩
  · exact ⟨none, [], 0, h1, fun _ => rfl, Or.inl rfl, by simp⟩
  · rw [e] at hw
    have hcap := hw _ (Open.weights_cap Try.underlying30)
    rw [Try.bytesLkO] at hcap
    simp only [List.length_map, List.length_range] at hcap
    obtain ⟨F, hF⟩ := choose_lt (α := LkM) (n := len) (p := fun i o => w.cell? (a.add (i * 2 + 0)) = some (.int .i64 o.tx) ∧ w.cell? (a.add (i * 2 + 1)) = some (.int .i64 o.mode)) (fun i hi => by
      obtain ⟨cs', c1, c2, c3⟩ := hel i hi
      obtain ⟨o, rfl⟩ := open_lkO c3
      exact ⟨o, c2 0 (by omega), c2 1 (by omega)⟩)
    have hlen : ((List.range len).map F).length = len := by simp
    refine ⟨some a, (List.range len).map F, cap, (by rw [hlen, h1]), (fun h => by cases h), ?_, by rw [hlen]; omega⟩
    by_cases h0 : len = 0
    · left; subst h0; rfl
    · right
      obtain ⟨b, off, rfl, hb⟩ := hpl (by omega)
      refine ⟨b, off, rfl, hb, fun k hk => ?_⟩
      rw [hlen] at hk
      obtain ⟨f0, f1⟩ := hF k hk
      rw [Addr.add_lit] at f0 f1
      simp only [List.getElem_map, List.getElem_range]
      exact ⟨f0, f1⟩

structure LkM.LiL where
  x : LiM
  hv : Value
  qv : Value
def LkM.LiL.Ok (w : World) (o : LkM.LiL) : Prop :=
  (∃ a c, o.hv = .slice a o.x.held.length c ∧ LksAt w a o.x.held ∧ (a = none → c = 0) ∧ o.x.held.length ≤ 8796093022000) ∧ (∃ a c, o.qv = .slice a o.x.queue.length c ∧ LksAt w a o.x.queue ∧ (a = none → c = 0) ∧ o.x.queue.length ≤ 8796093022000)
instance : Inhabited LkM.LiL := ⟨⟨default, default, default⟩⟩

set_option maxRecDepth 100000 in
theorem open_liO {n : Nat} {cs : List Value} {x : DataW H × List MemPlace} (h : DataW.trod enc Try.prog w 0 (fun _ => true) true n 32 cs = some x) (hw : ∀ k ∈ x.1.weights Try.prog 32, k ≤ reachBytes) :
    ∃ o : LkM.LiL, cs = [.int .i64 o.x.item, o.hv, o.qv] ∧ o.Ok w := by
  obtain ⟨y0, y1, y2, m, rfl, hl, h0, h1, h2⟩ := trod_struct3 Try.underlying32 h
  rw [Try.cellsLiO] at hl
  have hw : ∀ k, k ∈ DataW.weightsEach Try.prog [3, 30, 30] [y0.1, y1.1, y2.1] → k ≤ reachBytes := by
    intro k hk
    refine hw k ?_
    rw [DataW.weights, Try.underlying32]
    exact hk
  match cs, hl with
  | [c0, c1, c2], _ =>
    simp only [Try.cellsIntO, Try.cellsLksO, List.drop_zero, List.take_succ_cons, List.take_zero, List.drop_succ_cons] at h0 h1 h2
    obtain ⟨x0, rfl⟩ := open_intO h0
    obtain ⟨ha, hls, hc, rfl, r1, r2, r3⟩ := open_lksO h1 (fun k hk => hw k (by
      rw [DataW.weightsEach]
      refine List.mem_append.2 (Or.inr ?_)
      rw [DataW.weightsEach]
      exact List.mem_append.2 (Or.inl hk)))
    obtain ⟨qa, qls, qc, rfl, s1, s2, s3⟩ := open_lksO h2 (fun k hk => hw k (by
      rw [DataW.weightsEach]
      refine List.mem_append.2 (Or.inr ?_)
      rw [DataW.weightsEach]
      refine List.mem_append.2 (Or.inr ?_)
      rw [DataW.weightsEach]
      exact List.mem_append.2 (Or.inl hk)))
    exact ⟨⟨⟨x0, hls, qls⟩, .slice ha hls.length hc, .slice qa qls.length qc⟩, rfl, ⟨ha, hc, rfl, r2, r1, r3⟩, ⟨qa, qc, rfl, s2, s1, s3⟩⟩

set_option maxRecDepth 100000 in
/-- A table that came in. -/
theorem open_locks {r : Reach} {b0 : Nat} {v : Value} {d : DataW H} {p : List MemPlace} (hval : Value.okWide Try.prog w r b0 23 v) (h : DataW.Trod enc Try.prog w 0 (fun _ => true) true 23 v d p) (hsz : ∀ n ∈ d.weights Try.prog 23, n ≤ reachBytes) :
    ∃ ao cap t vs, v = .slice ao t.length cap ∧ (ao = none → cap = 0) ∧ LkM.InV w ao t vs ∧ cap * 56 ≤ 140737488355328 ∧ t.length ≤ cap := by
  obtain ⟨a0, n0, c0, rfl⟩ := okWide_slice Try.underlying23 hval
  obtain ⟨fuel, hf⟩ := h
  have hf : DataW.trod enc Try.prog w 0 (fun _ => true) true fuel 23 [.slice a0 n0 c0] = some (d, p) := hf
  have hr : reachBytes = 140737488351232 := rfl
  rcases Open.slice_rows (w := w) Try.underlying23 Try.cellsLiO (by omega) hf with ⟨h1, e⟩ | ⟨a, len, cap, m, D, Pl, h1, hle, hmx, e, hel, hpl⟩
  · rw [h1]
    exact ⟨none, 0, [], fun _ => .slice none 0 0, rfl, fun _ => rfl, ⟨Or.inl rfl, fun i hi => by simp at hi⟩, by omega, Nat.le_refl _⟩
  · simp only at e
    rw [e] at hsz
    have hcap := hsz _ (Open.weights_cap Try.underlying23)
    rw [Try.bytesLiO] at hcap
    simp only [List.length_map, List.length_range] at hcap
    obtain ⟨F, hF⟩ := choose_lt (α := LkM.LiL) (n := len) (p := fun i o => (w.cell? (a.add (i * 3 + 0)) = some (.int .i64 o.x.item) ∧ w.cell? (a.add (i * 3 + 1)) = some o.hv ∧ w.cell? (a.add (i * 3 + 2)) = some o.qv) ∧ o.Ok w) (fun i hi => by
      obtain ⟨cs', c1, c2, c3⟩ := hel i hi
      obtain ⟨o, rfl, hs⟩ := open_liO c3 (fun k hk => hsz k (Open.weights_slice Try.underlying23 (d := D i) (List.mem_map.2 ⟨i, List.mem_range.2 hi, rfl⟩) hk))
      exact ⟨o, ⟨c2 0 (by omega), c2 1 (by omega), c2 2 (by omega)⟩, hs⟩)
    have hlen : ((List.range len).map fun i => (F i).x).length = len := by simp
    refine ⟨some a, cap, (List.range len).map fun i => (F i).x, fun i => if i % 2 = 0 then (F (i / 2)).hv else (F (i / 2)).qv, (by rw [hlen, h1]), (fun h => by cases h), ⟨?_, fun i hi => ?_⟩, by omega, by rw [hlen]; exact hle⟩
    · by_cases h0 : len = 0
      · left; subst h0; rfl
      · right
        obtain ⟨b, off, rfl, hb⟩ := hpl (by omega)
        refine ⟨b, off, rfl, hb, fun k hk => ?_⟩
        rw [hlen] at hk
        obtain ⟨⟨f0, f1, f2⟩, _⟩ := hF k hk
        rw [Addr.add_lit] at f0 f1 f2
        simp only [List.getElem_map, List.getElem_range]
        refine ⟨f0, ?_, ?_⟩
        · rw [if_pos (by omega), show 2 * k / 2 = k by omega]; exact f1
        · rw [if_neg (by omega), show (2 * k + 1) / 2 = k by omega]; exact f2
    · rw [hlen] at hi
      obtain ⟨_, o1, o2⟩ := hF (i / 2) (by omega)
      by_cases e2 : i % 2 = 0
      · have hrow : LkM.row ((List.range len).map fun i => (F i).x) i = (F (i / 2)).x.held := by
          have := LkM.row_held (t := (List.range len).map fun i => (F i).x) (k := i / 2) (by rw [hlen]; omega)
          rw [show 2 * (i / 2) = i by omega] at this
          rw [this]; simp
        rw [hrow]
        rw [if_pos e2]; exact o1
      · have hrow : LkM.row ((List.range len).map fun i => (F i).x) i = (F (i / 2)).x.queue := by
          have := LkM.row_queue (t := (List.range len).map fun i => (F i).x) (k := i / 2) (by rw [hlen]; omega)
          rw [show 2 * (i / 2) + 1 = i by omega] at this
          rw [this]; simp
        rw [hrow]
        rw [if_neg e2]; exact o2
end
end Go.Proofs.Ytjbmkhalmmahkaa
