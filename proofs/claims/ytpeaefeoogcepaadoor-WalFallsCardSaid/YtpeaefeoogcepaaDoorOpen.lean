/- OPENING a slice of structs: its elements' cells, their readings, their weights. -/
import Derived.Test.YtpeaefeoogcepaaDoorLawKit
import Derived.Test.YtpeaefeoogcepaaDoorHeap
import Derived.Deep.Slices
namespace Go.Proofs.YtpeaefeoogcepaaDoor.Open
open Go.ChangeShapes Go.WideShapes Go.ChangeAt Go.RowKit Go.ChangeMaps Go.Deep

section
variable {H : Type} {enc : TypeId × Value → H} {P : Program} {w : World}

/-- A slice, opened element by element. -/
theorem slice_rows {t e m fuel : Nat} {v : Value} {x : DataW H × List MemPlace} (ht : P.underlying t = some (.slice e)) (hC : P.cellsOf e = m) (hm : 0 < m)
    (h : DataW.trod enc P w 0 (fun _ => true) true fuel t [v] = some x) :
    (v = .slice none 0 0 ∧ x.1 = .nil) ∨
    ∃ (a : Addr) (len cap n : Nat) (D : Nat → DataW H) (Pl : Nat → List MemPlace), v = .slice (some a) len cap ∧ len ≤ cap ∧ cap ≤ maxLen ∧
      x.1 = .slice ((List.range len).map D) ((List.range (cap - len)).map fun j => D (len + j)) ∧
      (∀ i, i < len → ∃ cs', cs'.length = m ∧ (∀ j, j < m → w.cell? (a.add (i * m + j)) = cs'[j]?) ∧ DataW.trod enc P w 0 (fun _ => true) true n e cs' = some (D i, Pl i)) ∧
      (0 < len → ∃ b off, a = ⟨b, off, none⟩ ∧ b < w.heap.size) := by
  rcases open_slice ht h with ⟨h1, rfl⟩ | ⟨a, len, cap, m', n, D, Pl, h1, hb, hl, hmx, hm', rfl, hx⟩
  · exact Or.inl ⟨by simpa using h1, rfl⟩
  · right
    simp only [if_true] at hm'
    subst hm'
    have hsp : 0 < len → a.spot = none := by
      intro h0
      obtain ⟨cs', c1, c2⟩ := hx 0 (by omega)
      rw [hC] at c1
      obtain ⟨_, c3, c4⟩ := World.cells?_some c1
      have hc := c4 0 hm
      rw [List.getElem?_eq_getElem (by omega)] at hc
      simpa [Addr.add] using World.cell?_spot hc
    have hel : ∀ i, i < len → ∃ cs', cs'.length = m ∧ (∀ j, j < m → w.cell? (a.add (i * m + j)) = cs'[j]?) ∧ DataW.trod enc P w 0 (fun _ => true) true n e cs' = some (D i, Pl i) := by
      intro i hi
      obtain ⟨cs', c1, c2⟩ := hx i (by omega)
      rw [hC] at c1
      obtain ⟨_, c3, c4⟩ := World.cells?_some c1
      refine ⟨cs', c3, fun j hj => ?_, c2⟩
      rw [← c4 j hj]
      obtain ⟨b, off, sp⟩ := a
      obtain rfl : sp = none := hsp (by omega)
      rw [Addr.add_lit, Addr.add_lit, Addr.add_lit, Nat.add_assoc]
    refine ⟨a, len, m', n, D, Pl, by simpa using h1, hl, hmx, rfl, hel, fun h0 => ?_⟩
    obtain ⟨cs', c1, c2, _⟩ := hel 0 h0
    have hc := c2 0 hm
    rw [List.getElem?_eq_getElem (by omega)] at hc
    obtain ⟨b, off, spot⟩ := a
    have hspot : spot = none := by simpa [Addr.add] using World.cell?_spot hc
    subst hspot
    refine ⟨b, off, rfl, ?_⟩
    have := World.block_lt_of_cell? w _ hc
    simpa [Addr.add] using this

theorem mem_weightsAll {e : TypeId} {d : DataW H} {n : Nat} : ∀ {l : List (DataW H)}, d ∈ l → n ∈ d.weights P e → n ∈ DataW.weightsAll P e l
  | x :: l, h, hn => by
    rw [DataW.weightsAll, List.mem_append]
    rcases List.mem_cons.1 h with rfl | h
    · exact Or.inl hn
    · exact Or.inr (mem_weightsAll h hn)
theorem weights_slice {t e : TypeId} {elems spare : List (DataW H)} {d : DataW H} {n : Nat} (ht : P.underlying t = some (.slice e)) (hd : d ∈ elems) (hn : n ∈ d.weights P e) : n ∈ (DataW.slice elems spare).weights P t := by
  rw [DataW.weights, ht]
  exact List.mem_cons_of_mem _ (List.mem_append.2 (Or.inl (mem_weightsAll hd hn)))
theorem weights_cap {t e : TypeId} {elems spare : List (DataW H)} (ht : P.underlying t = some (.slice e)) : (elems.length + spare.length) * P.bytesOf e ∈ (DataW.slice elems spare).weights P t := by
  rw [DataW.weights, ht]
  exact List.mem_cons_self
theorem weights_bound {ts : List TypeId} {ds : List (DataW H)} (h : (DataW.weightsEach P ts ds).all (· ≤ reachBytes) = true) {j : Nat} {t : TypeId} {d : DataW H} (ht : ts[j]? = some t) (hd : ds[j]? = some d) :
    ∀ n ∈ d.weights P t, n ≤ reachBytes := fun n hn => by
  have := List.all_eq_true.1 h n (DataW.weights_mem_each ht hd n hn)
  simpa using this
end
end Go.Proofs.YtpeaefeoogcepaaDoor.Open
