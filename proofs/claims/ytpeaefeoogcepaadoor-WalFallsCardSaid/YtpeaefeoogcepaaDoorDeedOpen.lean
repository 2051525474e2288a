/- OPENING deeds that came in, and flags. -/
import Derived.Test.YtpeaefeoogcepaaDoorOpen
import Derived.Test.YtpeaefeoogcepaaDoorSectC
import Derived.Deep.Strs
import Derived.Lib.SmallJoins
import Derived.DataShut
namespace Go.Proofs.YtpeaefeoogcepaaDoor
open Go.ChangeShapes Go.WideShapes Go.ChangeAt Go.RowKit Go.ChangeMaps Go.Deep

theorem Tryd.cellsDeed : Tryd.prog.cellsOf 38 = 4 := by kernel_rfl
theorem Tryd.cellsIntD : Tryd.prog.cellsOf 3 = 1 := by kernel_rfl
theorem Tryd.cellsStrD : Tryd.prog.cellsOf 9 = 1 := by kernel_rfl
theorem Tryd.cellsBoolD : Tryd.prog.cellsOf 4 = 1 := by kernel_rfl
theorem Tryd.cellsBoolsD : Tryd.prog.cellsOf 36 = 1 := by kernel_rfl
theorem Tryd.bytesDeed : Tryd.prog.bytesOf 38 = 56 := by kernel_rfl
theorem Tryd.bytesBoolD : Tryd.prog.bytesOf 4 = 1 := by kernel_rfl

structure DeedL where
  kind : Int
  n : Int
  text : ByteArray
  keep : List Bool
  ka : Option Addr
  kc : Nat
  deriving Inhabited
def DeedL.cells (x : DeedL) : List Value := [.int .i64 x.kind, .int .i64 x.n, .string x.text, .slice x.ka x.keep.length x.kc]
structure DeedL.Sl (w : World) (x : DeedL) : Prop where
  keep : FlagsAt w x.ka x.keep
  n : -9223372036854775808 ≤ x.n ∧ x.n ≤ 9223372036854775807
  text : x.text.size ≤ 9223372036854775807
  kl : x.keep.length ≤ 9223372036854775807
structure DeedsAt (w : World) (ao : Option Addr) (L : List DeedL) : Prop where
  sl : ∀ x ∈ L, x.Sl w
  row : L = [] ∨ ∃ b off, ao = some ⟨b, off, none⟩ ∧ b < w.heap.size ∧ ∀ k (h : k < L.length), w.cell? ⟨b, off + k * 4, none⟩ = some (.int .i64 L[k].kind) ∧ w.cell? ⟨b, off + k * 4 + 1, none⟩ = some (.int .i64 L[k].n) ∧
    w.cell? ⟨b, off + k * 4 + 2, none⟩ = some (.string L[k].text) ∧ w.cell? ⟨b, off + k * 4 + 3, none⟩ = some (.slice L[k].ka L[k].keep.length L[k].kc)
theorem DeedsAt.below {B : Nat} {w w' : World} {ao : Option Addr} {L : List DeedL} (h : DeedsAt w ao L) (hb : Below B w w') (hB : w.heap.size ≤ B) : DeedsAt w' ao L := by
  refine ⟨fun x hx => ⟨(h.sl x hx).keep.below hb hB, (h.sl x hx).n, (h.sl x hx).text, (h.sl x hx).kl⟩, ?_⟩
  rcases h.row with h | ⟨b, off, h1, h2, h3⟩
  · exact Or.inl h
  · refine Or.inr ⟨b, off, h1, Nat.lt_of_lt_of_le h2 hb.size, fun k hk => ?_⟩
    obtain ⟨c0, c1, c2, c3⟩ := h3 k hk
    have hl := Nat.lt_of_lt_of_le h2 hB
    exact ⟨(hb.cell (p := ⟨b, off + k * 4, none⟩) hl).trans c0, (hb.cell (p := ⟨b, off + k * 4 + 1, none⟩) hl).trans c1, (hb.cell (p := ⟨b, off + k * 4 + 2, none⟩) hl).trans c2, (hb.cell (p := ⟨b, off + k * 4 + 3, none⟩) hl).trans c3⟩

section
variable {H : Type} {enc : TypeId × Value → H} {w : World}

theorem open_flags_in {n : Nat} {c : Value} {y : DataW H × List MemPlace} (h : DataW.trod enc Tryd.prog w 0 (fun _ => true) true n 36 [c] = some y) :
    ∃ ao l cap, c = .slice ao l.length cap ∧ FlagsAt w ao l ∧ l.length ≤ maxLen := by
  rcases Open.slice_rows (w := w) Tryd.underlying36 Tryd.cellsBoolD (by omega) h with ⟨h1, e⟩ | ⟨a, len, cap, m, D, Pl, h1, hle, hmx, e, hel, hpl⟩
  · exact ⟨none, [], 0, h1, Or.inl rfl, Nat.zero_le _⟩
  · obtain ⟨F, hF⟩ := choose_lt (α := Bool) (n := len) (p := fun i o => w.cell? (a.add (i * 1 + 0)) = some (.bool o)) (fun i hi => by
      obtain ⟨cs', c1, c2, c3⟩ := hel i hi
      match cs', c1 with
      | [c], _ =>
        obtain ⟨o, e0, _⟩ := DataW.trod_bool Tryd.underlying4 c3
        simp only [List.cons.injEq, and_true] at e0
        subst e0
        exact ⟨o, c2 0 (by omega)⟩)
    have hlen : ((List.range len).map F).length = len := by simp
    refine ⟨some a, (List.range len).map F, cap, (by rw [hlen, h1]), ?_, (by rw [hlen]; omega)⟩
    by_cases h0 : len = 0
    · left; subst h0; rfl
    · right
      obtain ⟨b, off, rfl, hb⟩ := hpl (by omega)
      refine ⟨b, off, rfl, hb, fun k hk => ?_⟩
      rw [hlen] at hk
      have f0 := hF k hk
      rw [Addr.add_lit, Nat.mul_one, Nat.add_zero] at f0
      simp only [List.getElem_map, List.getElem_range]
      exact f0

set_option maxRecDepth 100000 in
/-- Flags that came in. -/
theorem open_flags {r : Reach} {b0 : Nat} {v : Value} {d : DataW H} {p : List MemPlace} (hval : Value.okWide Tryd.prog w r b0 36 v) (h : DataW.Trod enc Tryd.prog w 0 (fun _ => true) true 36 v d p) :
    ∃ ao cap l, v = .slice ao l.length cap ∧ FlagsAt w ao l ∧ l.length ≤ maxLen := by
  obtain ⟨a0, n0, c0, rfl⟩ := okWide_slice Tryd.underlying36 hval
  obtain ⟨fuel, hf⟩ := h
  have hf : DataW.trod enc Tryd.prog w 0 (fun _ => true) true fuel 36 [.slice a0 n0 c0] = some (d, p) := hf
  obtain ⟨ao, l, cap, h1, h2, h3⟩ := open_flags_in (w := w) hf
  exact ⟨ao, cap, l, h1, h2, h3⟩

set_option maxRecDepth 100000 in
theorem open_deed {n : Nat} {cs : List Value} {x : DataW H × List MemPlace} (h : DataW.trod enc Tryd.prog w 0 (fun _ => true) true n 38 cs = some x) :
    ∃ o : DeedL, cs = o.cells ∧ o.Sl w := by
  obtain ⟨y0, y1, y2, y3, m, rfl, hl, h0, h1, h2, h3⟩ := Go.Joins.trod_struct4 Tryd.underlying38 h
  rw [Tryd.cellsDeed] at hl
  match cs, hl with
  | [c0, c1, c2, c3], _ =>
    simp only [Tryd.cellsIntD, Tryd.cellsStrD, List.drop_zero, List.take_succ_cons, List.take_zero, List.drop_succ_cons] at h0 h1 h2 h3
    obtain ⟨x0, e0, rfl, hw0⟩ := DataW.trod_int Tryd.underlying3 h0
    obtain ⟨x1, e1, rfl, hw1⟩ := DataW.trod_int Tryd.underlying3 h1
    obtain ⟨s, e2, rfl, hw2⟩ := DataW.trod_string Tryd.underlying9 h2
    simp only [List.cons.injEq, and_true] at e0 e1 e2
    subst e0; subst e1; subst e2
    obtain ⟨ka, ks, kc, rfl, r1, r2⟩ := open_flags_in h3
    refine ⟨⟨x0, x1, s, ks, ka, kc⟩, rfl, ⟨r1, ?_, by unfold maxLen at hw2; omega, by unfold maxLen at r2; omega⟩⟩
    exact (Lit.wf_int_iff .i64 x1).1 hw1

set_option maxRecDepth 100000 in
/-- Deeds that came in. -/
theorem open_deeds {r : Reach} {b0 : Nat} {v : Value} {d : DataW H} {p : List MemPlace} (hval : Value.okWide Tryd.prog w r b0 34 v) (h : DataW.Trod enc Tryd.prog w 0 (fun _ => true) true 34 v d p) (hsz : ∀ n ∈ d.weights Tryd.prog 34, n ≤ reachBytes) :
    ∃ ao cap L, v = .slice ao L.length cap ∧ DeedsAt w ao L ∧ L.length ≤ cap ∧ cap * 56 ≤ 140737488355328 := by
  obtain ⟨a0, n0, c0, rfl⟩ := okWide_slice Tryd.underlying34 hval
  obtain ⟨fuel, hf⟩ := h
  have hf : DataW.trod enc Tryd.prog w 0 (fun _ => true) true fuel 34 [.slice a0 n0 c0] = some (d, p) := hf
  have hr : reachBytes = 140737488351232 := rfl
  rcases Open.slice_rows (w := w) Tryd.underlying34 Tryd.cellsDeed (by omega) hf with ⟨h1, e⟩ | ⟨a, len, cap, m, D, Pl, h1, hle, hmx, e, hel, hpl⟩
  · rw [h1]
    exact ⟨none, 0, [], rfl, ⟨by simp, Or.inl rfl⟩, Nat.le_refl _, by omega⟩
  · simp only at e
    rw [e] at hsz
    have hcap := hsz _ (Open.weights_cap Tryd.underlying34)
    rw [Tryd.bytesDeed] at hcap
    simp only [List.length_map, List.length_range] at hcap
    obtain ⟨F, hF⟩ := choose_lt (α := DeedL) (n := len) (p := fun i o => (w.cell? (a.add (i * 4 + 0)) = some (.int .i64 o.kind) ∧ w.cell? (a.add (i * 4 + 1)) = some (.int .i64 o.n) ∧ w.cell? (a.add (i * 4 + 2)) = some (.string o.text) ∧ w.cell? (a.add (i * 4 + 3)) = some (.slice o.ka o.keep.length o.kc)) ∧ o.Sl w) (fun i hi => by
      obtain ⟨cs', c1, c2, c3⟩ := hel i hi
      obtain ⟨o, rfl, hs⟩ := open_deed c3
      exact ⟨o, ⟨c2 0 (by omega), c2 1 (by omega), c2 2 (by omega), c2 3 (by omega)⟩, hs⟩)
    have hlen : ((List.range len).map F).length = len := by simp
    refine ⟨some a, cap, (List.range len).map F, (by rw [hlen, h1]), ⟨fun x hx => ?_, ?_⟩, (by rw [hlen]; exact hle), (by omega)⟩
    · obtain ⟨i, hi, rfl⟩ := List.mem_map.1 hx
      exact (hF i (by simpa using hi)).2
    · by_cases h0 : len = 0
      · left; subst h0; rfl
      · right
        obtain ⟨b, off, rfl, hb⟩ := hpl (by omega)
        refine ⟨b, off, rfl, hb, fun k hk => ?_⟩
        rw [hlen] at hk
        obtain ⟨⟨f0, f1, f2, f3⟩, _⟩ := hF k hk
        rw [Addr.add_lit] at f0 f1 f2 f3
        simp only [List.getElem_map, List.getElem_range]
        exact ⟨f0, f1, f2, f3⟩
end
end Go.Proofs.YtpeaefeoogcepaaDoor
