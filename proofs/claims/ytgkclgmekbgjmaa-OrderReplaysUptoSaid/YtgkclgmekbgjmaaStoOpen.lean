/- OPENING a story that came in, of small bulk. -/
import Derived.Test.YtgkclgmekbgjmaaOpen
import Derived.Test.YtgkclgmekbgjmaaLawUpto
import Derived.Test.YtgkclgmekbgjmaaStoM
namespace Go.Proofs.Ytgkclgmekbgjmaa
open Go.ChangeShapes Go.WideShapes Go.ChangeAt Go.RowKit Go.ChangeMaps Go.Deep

theorem Try.cellsIntS : Try.prog.cellsOf 3 = 1 := by kernel_rfl
theorem Try.cellsIntsS : Try.prog.cellsOf 31 = 1 := by kernel_rfl
theorem Try.cellsGotS : Try.prog.cellsOf 27 = 2 := by kernel_rfl
theorem Try.cellsGotsS : Try.prog.cellsOf 28 = 1 := by kernel_rfl
theorem Try.cellsTaleS : Try.prog.cellsOf 30 = 2 := by kernel_rfl
theorem Try.cellsTalesS : Try.prog.cellsOf 22 = 1 := by kernel_rfl
theorem Try.cellsVersS : Try.prog.cellsOf 23 = 1 := by kernel_rfl
theorem Try.cellsStory : Try.prog.cellsOf 25 = 2 := by kernel_rfl

section
variable {H : Type} {enc : TypeId × Value → H} {w : World}

theorem open_intS {n : Nat} {c : Value} {y : DataW H × List MemPlace} (h : DataW.trod enc Try.prog w 0 (fun _ => true) true n 3 [c] = some y) :
    ∃ x : Int, c = .int .i64 x := by
  obtain ⟨x, e, rfl, hw⟩ := DataW.trod_int Try.underlying3 h
  simp only [List.cons.injEq, and_true] at e
  exact ⟨x, e⟩
theorem open_intsS {n : Nat} {c : Value} {y : DataW H × List MemPlace} (h : DataW.trod enc Try.prog w 0 (fun _ => true) true n 31 [c] = some y) :
    ∃ ao l cap, c = .slice ao l.length cap ∧ IntsAt w ao l ∧ l.length ≤ cap ∧ cap ≤ Rows.uptoBulk y.1 := by
  rcases Open.slice_rows (w := w) Try.underlying31 Try.cellsIntS (by omega) h with ⟨h1, e⟩ | ⟨a, len, cap, m, D, Pl, h1, hle, hmx, e, hel, hpl⟩
  · exact ⟨none, [], 0, h1, Or.inl rfl, by simp, by simp⟩
  · obtain ⟨F, hF⟩ := choose_lt (α := Int) (n := len) (p := fun i o => w.cell? (a.add (i * 1 + 0)) = some (.int .i64 o)) (fun i hi => by
      obtain ⟨cs', c1, c2, c3⟩ := hel i hi
      match cs', c1 with
      | [c], _ =>
        obtain ⟨o, rfl⟩ := open_intS c3
        exact ⟨o, c2 0 (by omega)⟩)
    have hlen : ((List.range len).map F).length = len := by simp
    have hb : cap ≤ Rows.uptoBulk y.1 := by
      rw [e]
      have := LawKit.bulk_slice ((List.range len).map D) ((List.range (cap - len)).map fun j => D (len + j))
      simp only [List.length_map, List.length_range] at this
      omega
    refine ⟨some a, (List.range len).map F, cap, (by rw [hlen, h1]), ?_, by rw [hlen]; exact hle, hb⟩
    by_cases h0 : len = 0
    · left; subst h0; rfl
    · right
      obtain ⟨b, off, rfl, hb⟩ := hpl (by omega)
      refine ⟨b, off, rfl, hb, fun k hk => ?_⟩
      rw [hlen] at hk
      have f0 := hF k hk
      rw [Addr.add_lit, Nat.mul_one, Nat.add_zero] at f0
      simp only [List.getElem_map, List.getElem_range]
      exact f0
set_option maxRecDepth 100000 in
theorem open_gotS {n : Nat} {cs : List Value} {x : DataW H × List MemPlace} (h : DataW.trod enc Try.prog w 0 (fun _ => true) true n 27 cs = some x) :
    ∃ o : EgM, cs = [.int .i64 o.frm, .int .i64 o.to_] := by
  obtain ⟨y0, y1, m, rfl, hl, h0, h1⟩ := trod_struct2 Try.underlying27 h
  rw [Try.cellsGotS] at hl
  match cs, hl with
  | [c0, c1], _ =>
    simp only [Try.cellsIntS, List.drop_zero, List.take_succ_cons, List.take_zero, List.drop_succ_cons] at h0 h1
    obtain ⟨x0, rfl⟩ := open_intS h0
    obtain ⟨x1, rfl⟩ := open_intS h1
    exact ⟨⟨x0, x1⟩, rfl⟩
theorem open_gotsS {n : Nat} {c : Value} {y : DataW H × List MemPlace} (h : DataW.trod enc Try.prog w 0 (fun _ => true) true n 28 [c] = some y) :
    ∃ ao l cap, c = .slice ao l.length cap ∧ EgsAt w ao l ∧ l.length ≤ cap ∧ cap ≤ Rows.uptoBulk y.1 := by
  rcases Open.slice_rows (w := w) Try.underlying28 Try.cellsGotS (by omega) h with ⟨h1, e⟩ | ⟨a, len, cap, m, D, Pl, h1, hle, hmx, e, hel, hpl⟩
  · exact ⟨none, [], 0, h1, Or.inl rfl, by simp, by simp⟩
  · obtain ⟨F, hF⟩ := choose_lt (α := EgM) (n := len) (p := fun i s => w.cell? (a.add (i * 2 + 0)) = some (.int .i64 s.frm) ∧ w.cell? (a.add (i * 2 + 1)) = some (.int .i64 s.to_)) (fun i hi => by
      obtain ⟨cs', c1, c2, c3⟩ := hel i hi
      obtain ⟨o, rfl⟩ := open_gotS c3
      exact ⟨o, c2 0 (by omega), c2 1 (by omega)⟩)
    have hlen : ((List.range len).map F).length = len := by simp
    have hb : cap ≤ Rows.uptoBulk y.1 := by
      rw [e]
      have := LawKit.bulk_slice ((List.range len).map D) ((List.range (cap - len)).map fun j => D (len + j))
      simp only [List.length_map, List.length_range] at this
      omega
    refine ⟨some a, (List.range len).map F, cap, (by rw [hlen, h1]), ?_, by rw [hlen]; exact hle, hb⟩
    by_cases h0 : len = 0
    · left; subst h0; rfl
    · right
      obtain ⟨b, off, rfl, hb⟩ := hpl (by omega)
      refine ⟨b, off, rfl, hb, fun k hk => ?_⟩
      rw [hlen] at hk
      obtain ⟨f1, f2⟩ := hF k hk
      rw [Addr.add_lit] at f1 f2
      simp only [List.getElem_map, List.getElem_range]
      exact ⟨f1, f2⟩
set_option maxRecDepth 100000 in
theorem open_taleS {n : Nat} {cs : List Value} {x : DataW H × List MemPlace} (h : DataW.trod enc Try.prog w 0 (fun _ => true) true n 30 cs = some x) :
    ∃ t : TaleL, cs = t.cells ∧ EgsAt w t.ga t.gs ∧ t.gs.length ≤ Rows.uptoBulk x.1 := by
  obtain ⟨y0, y1, m, rfl, hl, h0, h1⟩ := trod_struct2 Try.underlying30 h
  rw [Try.cellsTaleS] at hl
  match cs, hl with
  | [c0, c1], _ =>
    simp only [Try.cellsIntS, Try.cellsGotsS, List.drop_zero, List.take_succ_cons, List.take_zero, List.drop_succ_cons] at h0 h1
    obtain ⟨x0, rfl⟩ := open_intS h0
    obtain ⟨ga, gs, gc, rfl, hg, hc, hbk⟩ := open_gotsS h1
    exact ⟨⟨x0, ga, gc, gs⟩, rfl, hg, by have : Rows.uptoBulk y1.1 ≤ Rows.uptoBulk (.agg [y0.1, y1.1]) := LawKit.bulk_agg (by simp); simp only at this ⊢; omega⟩
theorem open_talesS {n : Nat} {c : Value} {y : DataW H × List MemPlace} (h : DataW.trod enc Try.prog w 0 (fun _ => true) true n 22 [c] = some y) :
    ∃ ao l cap, c = .slice ao l.length cap ∧ TalesAt w ao l ∧ (∀ t ∈ l, EgsAt w t.ga t.gs) ∧ (∀ t ∈ l, t.gs.length ≤ Rows.uptoBulk y.1) ∧ l.length ≤ Rows.uptoBulk y.1 := by
  rcases Open.slice_rows (w := w) Try.underlying22 Try.cellsTaleS (by omega) h with ⟨h1, e⟩ | ⟨a, len, cap, m, D, Pl, h1, hle, hmx, e, hel, hpl⟩
  · exact ⟨none, [], 0, h1, Or.inl rfl, by simp, by simp, by simp⟩
  · have hbk : ∀ i, i < len → Rows.uptoBulk (D i) ≤ Rows.uptoBulk y.1 := fun i hi => by
      rw [e]; exact LawKit.bulk_elem (List.mem_map.2 ⟨i, by simpa using hi, rfl⟩)
    obtain ⟨F, hF⟩ := choose_lt (α := TaleL) (n := len) (p := fun i t => (w.cell? (a.add (i * 2 + 0)) = some (.int .i64 t.tx) ∧ w.cell? (a.add (i * 2 + 1)) = some (.slice t.ga t.gs.length t.gc)) ∧ EgsAt w t.ga t.gs ∧ t.gs.length ≤ Rows.uptoBulk y.1) (fun i hi => by
      obtain ⟨cs', c1, c2, c3⟩ := hel i hi
      obtain ⟨t, rfl, hg, hb⟩ := open_taleS c3
      have h2 : t.gs.length ≤ Rows.uptoBulk y.1 := Nat.le_trans hb (hbk i hi)
      exact ⟨t, ⟨c2 0 (by omega), c2 1 (by omega)⟩, hg, h2⟩)
    have hlen : ((List.range len).map F).length = len := by simp
    have hb : cap ≤ Rows.uptoBulk y.1 := by
      rw [e]
      have := LawKit.bulk_slice ((List.range len).map D) ((List.range (cap - len)).map fun j => D (len + j))
      simp only [List.length_map, List.length_range] at this
      omega
    refine ⟨some a, (List.range len).map F, cap, (by rw [hlen, h1]), ?_, fun t ht => ?_, fun t ht => ?_, by rw [hlen]; omega⟩
    · by_cases h0 : len = 0
      · left; subst h0; rfl
      · right
        obtain ⟨b, off, rfl, hb⟩ := hpl (by omega)
        refine ⟨b, off, rfl, hb, fun k hk => ?_⟩
        rw [hlen] at hk
        obtain ⟨⟨f1, f2⟩, _⟩ := hF k hk
        rw [Addr.add_lit] at f1 f2
        simp only [List.getElem_map, List.getElem_range]
        exact ⟨f1, f2⟩
    · obtain ⟨i, hi, rfl⟩ := List.mem_map.1 ht
      exact (hF i (by simpa using hi)).2.1
    · obtain ⟨i, hi, rfl⟩ := List.mem_map.1 ht
      exact (hF i (by simpa using hi)).2.2
theorem open_versS {n : Nat} {c : Value} {y : DataW H × List MemPlace} (h : DataW.trod enc Try.prog w 0 (fun _ => true) true n 23 [c] = some y) :
    ∃ (ao : Option Addr) (l : List VerL) (cap : Nat), c = .slice ao l.length cap ∧ (l = [] ∨ ∃ b off, ao = some ⟨b, off, none⟩ ∧ b < w.heap.size ∧ ∀ k (h : k < l.length), w.cell? ⟨b, off + k, none⟩ = some (.slice l[k].va l[k].vs.length l[k].vc)) ∧
      (∀ v ∈ l, IntsAt w v.va v.vs) ∧ (∀ v ∈ l, v.vs.length ≤ v.vc ∧ v.vc ≤ Rows.uptoBulk y.1) ∧ l.length ≤ Rows.uptoBulk y.1 := by
  rcases Open.slice_rows (w := w) Try.underlying23 Try.cellsIntsS (by omega) h with ⟨h1, e⟩ | ⟨a, len, cap, m, D, Pl, h1, hle, hmx, e, hel, hpl⟩
  · exact ⟨none, [], 0, h1, Or.inl rfl, by simp, by simp, by simp⟩
  · have hbk : ∀ i, i < len → Rows.uptoBulk (D i) ≤ Rows.uptoBulk y.1 := fun i hi => by
      rw [e]; exact LawKit.bulk_elem (List.mem_map.2 ⟨i, by simpa using hi, rfl⟩)
    obtain ⟨F, hF⟩ := choose_lt (α := VerL) (n := len) (p := fun i v => w.cell? (a.add (i * 1 + 0)) = some (.slice v.va v.vs.length v.vc) ∧ IntsAt w v.va v.vs ∧ v.vs.length ≤ v.vc ∧ v.vc ≤ Rows.uptoBulk y.1) (fun i hi => by
      obtain ⟨cs', c1, c2, c3⟩ := hel i hi
      match cs', c1 with
      | [c], _ =>
        obtain ⟨va, vs, vc, rfl, hv, hc, hb⟩ := open_intsS c3
        have h2 : vc ≤ Rows.uptoBulk y.1 := Nat.le_trans hb (hbk i hi)
        exact ⟨⟨va, vc, vs⟩, c2 0 (by omega), hv, hc, h2⟩)
    have hlen : ((List.range len).map F).length = len := by simp
    have hb : cap ≤ Rows.uptoBulk y.1 := by
      rw [e]
      have := LawKit.bulk_slice ((List.range len).map D) ((List.range (cap - len)).map fun j => D (len + j))
      simp only [List.length_map, List.length_range] at this
      omega
    refine ⟨some a, (List.range len).map F, cap, (by rw [hlen, h1]), ?_, fun t ht => ?_, fun t ht => ?_, by rw [hlen]; omega⟩
    · by_cases h0 : len = 0
      · left; subst h0; rfl
      · right
        obtain ⟨b, off, rfl, hb⟩ := hpl (by omega)
        refine ⟨b, off, rfl, hb, fun k hk => ?_⟩
        rw [hlen] at hk
        obtain ⟨f0, _⟩ := hF k hk
        rw [Addr.add_lit, Nat.mul_one, Nat.add_zero] at f0
        simp only [List.getElem_map, List.getElem_range]
        exact f0
    · obtain ⟨i, hi, rfl⟩ := List.mem_map.1 ht
      exact (hF i (by simpa using hi)).2.1
    · obtain ⟨i, hi, rfl⟩ := List.mem_map.1 ht
      exact (hF i (by simpa using hi)).2.2

set_option maxRecDepth 100000 in
/-- A story that came in. -/
theorem open_story {r : Reach} {b0 : Nat} {v : Value} {d : DataW H} {p : List MemPlace} (hval : Value.okWide Try.prog w r b0 25 v)
    (h : DataW.Trod enc Try.prog w 0 (fun _ => true) true 25 v d p) (hbk : Rows.uptoBulk d ≤ 1048576) :
    ∃ s : StoL, v = .agg #[.slice s.ta s.tls.length s.tc, .slice s.ra s.vrs.length s.rc] ∧ StoAt w s ∧ ∀ t ∈ s.tls, t.gs.length ≤ 1048576 := by
  obtain ⟨cs, rfl, hcs⟩ := okWide_struct Try.underlying25 hval
  rw [Try.cellsStory] at hcs
  obtain ⟨c0, c1, rfl⟩ : ∃ c0 c1, cs = #[c0, c1] := by
    match cs, hcs with
    | ⟨[c0, c1]⟩, _ => exact ⟨c0, c1, rfl⟩
  obtain ⟨fuel, hf⟩ := h
  obtain ⟨y0, y1, n, hx, hl, h0, h1⟩ := trod_struct2 Try.underlying25 hf
  simp only [Prod.mk.injEq] at hx
  obtain ⟨rfl, rfl⟩ := hx
  have h0' : DataW.trod enc Try.prog w 0 (fun _ => true) true n 22 [c0] = some y0 := by
    rw [Try.cellsTalesS] at h0
    exact h0
  have h1' : DataW.trod enc Try.prog w 0 (fun _ => true) true n 23 [c1] = some y1 := by
    rw [Try.cellsVersS] at h1
    exact h1
  have b0 : Rows.uptoBulk y0.1 ≤ 1048576 := Nat.le_trans (LawKit.bulk_agg (by simp)) hbk
  have b1 : Rows.uptoBulk y1.1 ≤ 1048576 := Nat.le_trans (LawKit.bulk_agg (by simp)) hbk
  obtain ⟨ta, tls, tc, rfl, t1, t2, t3, t4⟩ := open_talesS h0'
  obtain ⟨ra, vrs, rc, rfl, v1, v2, v3, v4⟩ := open_versS h1'
  exact ⟨⟨tls, ta, tc, vrs, ra, rc⟩, rfl, ⟨t1, t2, v1, v2, fun v hv => ⟨(v3 v hv).1, by have := (v3 v hv).2; omega⟩, fun t ht => by have := t3 t ht; omega, by simp only; omega⟩, fun t ht => by have := t3 t ht; omega⟩
end
end Go.Proofs.Ytgkclgmekbgjmaa
