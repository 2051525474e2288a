/- OPENING records, and arrays of twenty numbers, that came in. -/
import Derived.Test.YtfmgncfikaefhaaNumOpen
import Derived.Test.YtfmgncfikaefhaaRedoP
import Derived.Deep.Strs
namespace Go.Proofs.Ytfmgncfikaefhaa
open Go.ChangeShapes Go.WideShapes Go.ChangeAt Go.RowKit Go.ChangeMaps Go.Deep

theorem Try.cellsRec : Try.prog.cellsOf 25 = 5 := by kernel_rfl
theorem Try.bytesRec : Try.prog.bytesOf 25 = 40 := by kernel_rfl
theorem Try.cellsArr20 : Try.prog.cellsOf 23 = 20 := by kernel_rfl

section
variable {H : Type} {enc : TypeId × Value → H} {w : World}

theorem trod_struct5 {t : TypeId} {f0 f1 f2 f3 f4 : Field} {fuel : Nat} {cs : List Value} {x : DataW H × List MemPlace} (ht : Try.prog.underlying t = some (.struct #[f0, f1, f2, f3, f4])) (h : DataW.trod enc Try.prog w 0 (fun _ => true) true fuel t cs = some x) :
    ∃ y0 y1 y2 y3 y4 n, x = (.agg [y0.1, y1.1, y2.1, y3.1, y4.1], y0.2 ++ (y1.2 ++ (y2.2 ++ (y3.2 ++ y4.2)))) ∧ cs.length = Try.prog.cellsOf t ∧ DataW.trod enc Try.prog w 0 (fun _ => true) true n f0.type ((cs.drop f0.offset).take (Try.prog.cellsOf f0.type)) = some y0 ∧
      DataW.trod enc Try.prog w 0 (fun _ => true) true n f1.type ((cs.drop f1.offset).take (Try.prog.cellsOf f1.type)) = some y1 ∧ DataW.trod enc Try.prog w 0 (fun _ => true) true n f2.type ((cs.drop f2.offset).take (Try.prog.cellsOf f2.type)) = some y2 ∧
      DataW.trod enc Try.prog w 0 (fun _ => true) true n f3.type ((cs.drop f3.offset).take (Try.prog.cellsOf f3.type)) = some y3 ∧ DataW.trod enc Try.prog w 0 (fun _ => true) true n f4.type ((cs.drop f4.offset).take (Try.prog.cellsOf f4.type)) = some y4 := by
  obtain ⟨xs, n, _, rfl, hl, hlen, hf⟩ := DataW.trod_struct ht h
  match xs, hlen with
  | [y0, y1, y2, y3, y4], _ => exact ⟨y0, y1, y2, y3, y4, n, by simp, hl, by simpa using hf 0 f0 rfl, by simpa using hf 1 f1 rfl, by simpa using hf 2 f2 rfl, by simpa using hf 3 f3 rfl, by simpa using hf 4 f4 rfl⟩

instance : Inhabited RecM := ⟨⟨0, 0, 0, 0, 0⟩⟩

set_option maxRecDepth 100000 in
theorem open_rec {n : Nat} {cs : List Value} {x : DataW H × List MemPlace} (h : DataW.trod enc Try.prog w 0 (fun _ => true) true n 25 cs = some x) :
    ∃ r : RecM, cs = r.vals ∧ (-9223372036854775808 ≤ r.kind ∧ r.kind ≤ 9223372036854775807) ∧ (-9223372036854775808 ≤ r.tx ∧ r.tx ≤ 9223372036854775807) ∧ (-9223372036854775808 ≤ r.item ∧ r.item ≤ 9223372036854775807) ∧
      (-9223372036854775808 ≤ r.old ∧ r.old ≤ 9223372036854775807) ∧ (-9223372036854775808 ≤ r.new ∧ r.new ≤ 9223372036854775807) := by
  obtain ⟨y0, y1, y2, y3, y4, m, rfl, hl, h0, h1, h2, h3, h4⟩ := trod_struct5 Try.underlying25 h
  rw [Try.cellsRec] at hl
  match cs, hl with
  | [c0, c1, c2, c3, c4], _ =>
      simp only [Try.cellsInt', List.drop_zero, List.take_succ_cons, List.take_zero, List.drop_succ_cons] at h0 h1 h2 h3 h4
      obtain ⟨x0, rfl, b0⟩ := open_int1' h0
      obtain ⟨x1, rfl, b1⟩ := open_int1' h1
      obtain ⟨x2, rfl, b2⟩ := open_int1' h2
      obtain ⟨x3, rfl, b3⟩ := open_int1' h3
      obtain ⟨x4, rfl, b4⟩ := open_int1' h4
      exact ⟨⟨x0, x1, x2, x3, x4⟩, rfl, b0, b1, b2, b3, b4⟩

set_option maxRecDepth 100000 in
/-- Records that came in. -/
theorem open_recs {r : Reach} {b0 : Nat} {v : Value} {d : DataW H} {p : List MemPlace} (hval : Value.okWide Try.prog w r b0 22 v) (h : DataW.Trod enc Try.prog w 0 (fun _ => true) true 22 v d p) (hsz : ∀ n ∈ d.weights Try.prog 22, n ≤ reachBytes) :
    ∃ ao cap l, v = .slice ao l.length cap ∧ (ao = none → cap = 0) ∧ RecsAt w ao l ∧ l.length ≤ cap ∧ cap * 40 ≤ 140737488351232 := by
  obtain ⟨a0, n0, c0, rfl⟩ := okWide_slice Try.underlying22 hval
  obtain ⟨fuel, hf⟩ := h
  have hf : DataW.trod enc Try.prog w 0 (fun _ => true) true fuel 22 [.slice a0 n0 c0] = some (d, p) := hf
  have hr : reachBytes = 140737488351232 := rfl
  rcases Open.slice_rows (w := w) Try.underlying22 Try.cellsRec (by omega) hf with ⟨h1, e⟩ | ⟨a, len, cap, m, D, Pl, h1, hle, hmx, e, hel, hpl⟩
  · rw [h1]
    exact ⟨none, 0, [], rfl, fun _ => rfl, Or.inl rfl, Nat.le_refl _, by omega⟩
  · simp only at e
    rw [e] at hsz
    have hcap := hsz _ (Open.weights_cap Try.underlying22)
    rw [Try.bytesRec] at hcap
    simp only [List.length_map, List.length_range] at hcap
    obtain ⟨F, hF⟩ := choose_lt (α := RecM) (n := len) (p := fun i o => w.cell? (a.add (i * 5 + 0)) = some (.int .i64 o.kind) ∧ w.cell? (a.add (i * 5 + 1)) = some (.int .i64 o.tx) ∧ w.cell? (a.add (i * 5 + 2)) = some (.int .i64 o.item) ∧
        w.cell? (a.add (i * 5 + 3)) = some (.int .i64 o.old) ∧ w.cell? (a.add (i * 5 + 4)) = some (.int .i64 o.new)) (fun i hi => by
      obtain ⟨cs', c1, c2, c3⟩ := hel i hi
      obtain ⟨o, rfl, _⟩ := open_rec c3
      exact ⟨o, c2 0 (by omega), c2 1 (by omega), c2 2 (by omega), c2 3 (by omega), c2 4 (by omega)⟩)
    have hlen : ((List.range len).map F).length = len := by simp
    refine ⟨some a, cap, (List.range len).map F, (by rw [hlen, h1]), (fun h => by cases h), ?_, (by rw [hlen]; exact hle), (by omega)⟩
    by_cases h0 : len = 0
    · left; subst h0; rfl
    · right
      obtain ⟨b, off, rfl, hb⟩ := hpl (by omega)
      refine ⟨b, off, rfl, hb, fun k hk => ?_⟩
      rw [hlen] at hk
      obtain ⟨f0, f1, f2, f3, f4⟩ := hF k hk
      rw [Addr.add_lit] at f0 f1 f2 f3 f4
      simp only [List.getElem_map, List.getElem_range]
      exact ⟨f0, f1, f2, f3, f4⟩

set_option maxRecDepth 100000 in
/-- An array of twenty numbers that came in. -/
theorem open_arr20 {r : Reach} {b0 : Nat} {v : Value} {d : DataW H} {p : List MemPlace} (hval : Value.okWide Try.prog w r b0 23 v) (h : DataW.Trod enc Try.prog w 0 (fun _ => true) true 23 v d p) :
    ∃ f : Int → Int, v = .agg (i20Vals f).toArray := by
  simp only [Value.okWide, Try.underlying23] at hval
  obtain ⟨cs, rfl, _⟩ := hval
  obtain ⟨fuel, hf⟩ := h
  have hf : DataW.trod enc Try.prog w 0 (fun _ => true) true fuel 23 cs.toList = some (d, p) := hf
  obtain ⟨xs, m, _, _, hl, hlen, hel⟩ := DataW.trod_array Try.underlying23 hf
  rw [Try.cellsArr20] at hl
  simp only [Try.cellsInt', Nat.mul_one] at hel
  have hs : ∀ i, i < 20 → ∃ x : Int, cs.toList[i]? = some (.int .i64 x) := fun i hi => by
    have h1 := hel i hi
    rw [List.getElem?_eq_getElem (by omega : i < xs.length)] at h1
    have h2 : (cs.toList.drop i).take 1 = [cs.toList[i]'(by omega)] := by
      rw [List.drop_eq_getElem_cons (by omega : i < cs.toList.length)]; rfl
    rw [h2] at h1
    obtain ⟨x, e, _⟩ := open_int1' h1
    exact ⟨x, by rw [List.getElem?_eq_getElem (by omega : i < cs.toList.length), e]⟩
  obtain ⟨F, hF⟩ := choose_lt hs
  refine ⟨fun z => F z.toNat, ?_⟩
  congr 1
  rw [← Array.toArray_toList (xs := cs)]
  congr 1
  refine List.ext_getElem (by rw [hl]; simp [i20Vals, Tab]) fun i hi _ => ?_
  have h1 := hF i (by omega)
  rw [List.getElem?_eq_getElem hi, Option.some.injEq] at h1
  rw [h1]
  simp [i20Vals, Tab]
end
end Go.Proofs.Ytfmgncfikaefhaa
