/- slices.DeleteFunc: plain parts, over elements of any size. -/
import Derived.Test.YtnnkejolfhhmlaaGreatHeap
import Derived.Laws.OwnMore
namespace Go.Proofs.YtnnkejolfhhmlaaGreat
open Go.RowKit Go.Lib

theorem own_same {w w' : World} {base e size n : Nat} {v : Value} {xs : List Value} (h : w.ownsRow base e size v n xs) (hb : ∀ b, v.ownBlock = some b → w'.heap[b]? = w.heap[b]?) : w'.ownsRow base e size v n xs := by
  refine ⟨h.1, ?_⟩
  rcases h.2 with h1 | ⟨g, cap, cur, rfl, h2, h3, h4⟩
  · exact Or.inl h1
  · exact Or.inr ⟨g, cap, cur, rfl, h2, (hb g rfl).trans h3, h4⟩
theorem setCells_ownG {base e s cap : Nat} {g : Nat} : ∀ (vs : List Value) (o n : Nat) (w : World) (xs : List Value), w.ownsRow base e s (.slice (some ⟨g, 0, none⟩) n cap) n xs →
    ∃ ys, (w.setCells g o vs).ownsRow base e s (.slice (some ⟨g, 0, none⟩) n cap) n ys ∧ ys.take o = xs.take o
  | [], o, n, w, xs, h => ⟨xs, h, rfl⟩
  | v :: vs, o, n, w, xs, h => by
    obtain ⟨h1, h2⟩ := h.stored o v
    obtain ⟨ys, k1, k2⟩ := setCells_ownG vs (o + 1) n _ _ h1
    refine ⟨ys, k1, ?_⟩
    have := congrArg (List.take o) k2
    rw [List.take_take, List.take_take, show min o (o + 1) = o by omega] at this
    rw [this, List.take_set, List.set_eq_of_length_le (by simp; omega)]
theorem own_cutG {w : World} {base e s g cap n i : Nat} {xs : List Value} (h : w.ownsRow base e s (.slice (some ⟨g, 0, none⟩) n cap) n xs) (hi : i ≤ n) : w.ownsRow base e s (.slice (some ⟨g, 0, none⟩) i cap) i (xs.take (i * s)) := by
  have hl := h.1
  have hle : i * s ≤ n * s := Nat.mul_le_mul_right s hi
  refine ⟨by rw [List.length_take]; omega, ?_⟩
  rcases h.2 with ⟨h1, _⟩ | ⟨g', cap', cur, h1, h2, h3, h4, h5, h6, h7⟩
  · simp at h1
  · simp only [Value.slice.injEq, Option.some.injEq, Addr.mk.injEq, and_true, true_and] at h1
    obtain ⟨rfl, rfl⟩ := h1
    exact Or.inr ⟨g, cap, cur, rfl, h2, h3, by omega, h5, h6, by rw [← h7, List.take_take, Nat.min_eq_left hle]⟩
/-- 'clear' of a slice of many elements. -/
theorem run_clear_many {P : Program} (w : World) (t e ty : TypeId) (z : Value) (ht : P.underlying t = some (.slice e)) (hv : ∀ w, (zeroValue e).run P w = .ok z w) (h1 : ∀ v ∈ z.cells.toList, v.oneCell' = true) (hz : 0 < z.cells.size) (b o m c : Nat)
    (hc : ∀ j, j < m * z.cells.size → (w.cell? ⟨b, o + j, none⟩).isSome = true) (hf : ∀ j, j < m * z.cells.size → w.frozen? ⟨b, o + j, none⟩ = false) :
    (Builtin.clear_ #[t] ty #[.slice (some ⟨b, o, none⟩) m c]).run P w = .ok (.tuple #[]) (w.setCells b o (Builtin.zeroCells z.cells m).toList) := by
  have hlen : (Builtin.zeroCells z.cells m).toList.length = m * z.cells.size := by simp [Builtin.zeroCells]
  have h2 : ∀ v ∈ (Builtin.zeroCells z.cells m).toList, v.oneCell' = true := by
    intro v hv
    unfold Builtin.zeroCells at hv
    simp only [Array.toList_map, Array.toList_range, List.mem_map, List.mem_range] at hv
    obtain ⟨i, _, rfl⟩ := hv
    have hi : i % z.cells.size < z.cells.size := Nat.mod_lt _ hz
    rw [getElem!_pos z.cells _ hi]
    exact h1 _ (by simp)
  have hst := run_storeCells_cells (P := P) b o (Builtin.zeroCells z.cells m).toList 0 w (by rw [hlen]; simpa using hc) (by rw [hlen]; simpa using hf) h2
  simp only [Nat.add_zero] at hst
  cases m with
  | zero =>
    have e0 : (Builtin.zeroCells z.cells 0).toList = [] := List.eq_nil_of_length_eq_zero (by rw [hlen]; omega)
    rw [e0]
    simp [Builtin.clear_, run_underlying ht]
    rfl
  | succ m => simp [Builtin.clear_, run_underlying ht, hv, hst]

/-- DeleteFunc, in its loop: i kept so far, j looked at, ys in the row. -/
structure DelG {α : Type} (p : α → Bool) (l : List α) (i j : Nat) (ys : List α) : Prop where
  len : ys.length = l.length
  lt : i < j
  le : j ≤ l.length
  take : ys.take i = (l.take j).filter (fun x => !p x)
  drop : ys.drop j = l.drop j
section
variable {α : Type} {p : α → Bool} {l ys : List α} {i j k : Nat}
theorem DelG.skip (h : DelG p l i j ys) (hj : j < l.length) (hp : p l[j] = true) : DelG p l i (j + 1) ys :=
  ⟨h.len, by have := h.lt; omega, hj, by rw [List.take_succ_eq_append_getElem hj, List.filter_append, h.take]; simp [hp], by
    have := congrArg (List.drop 1) h.drop
    rwa [List.drop_drop, List.drop_drop] at this⟩
theorem DelG.keep (h : DelG p l i j ys) (hj : j < l.length) (hp : p l[j] = false) : DelG p l (i + 1) (j + 1) (ys.set i l[j]) := by
  have hl := h.len
  have hlt := h.lt
  refine ⟨by simp [hl], by omega, hj, ?_, ?_⟩
  · rw [List.take_succ_eq_append_getElem hj, List.filter_append, ← h.take]
    rw [List.take_succ_eq_append_getElem (by simp; omega), List.getElem_set_self, List.take_set, List.set_eq_of_length_le (by simp; omega)]
    simp [hp]
  · rw [List.drop_set_of_lt (by omega)]
    have := congrArg (List.drop 1) h.drop
    rwa [List.drop_drop, List.drop_drop] at this
theorem DelG.at (h : DelG p l i j ys) (hj : j < l.length) : ys[j]? = some l[j] := by
  have h1 := congrArg (fun l => l[0]?) h.drop
  simp only [List.getElem?_drop, Nat.add_zero] at h1
  rw [h1, List.getElem?_eq_getElem hj]
theorem DelG.start (h : l.findIdx p = k) (hk : k < l.length) : DelG p l k (k + 1) l := by
  have hall : ∀ j (hj : j < l.length), j < k → p l[j] = false := fun j hj h2 => by
    have := List.not_of_lt_findIdx (p := p) (xs := l) (i := j) (by omega)
    simpa using this
  have hp : p l[k] = true := by
    have := List.findIdx_getElem (p := p) (xs := l) (w := by omega)
    simpa [h] using this
  refine ⟨rfl, by omega, hk, ?_, rfl⟩
  rw [List.take_succ_eq_append_getElem hk, List.filter_append]
  have : (l.take k).filter (fun x => !p x) = l.take k := by
    rw [List.filter_eq_self]
    intro x hx
    obtain ⟨j, hj, rfl⟩ := List.getElem_of_mem hx
    simp at hj
    rw [List.getElem_take, hall j (by omega) (by omega)]; rfl
  rw [this]; simp [hp]
theorem DelG.done (h : DelG p l i l.length ys) : i = (l.filter fun x => !p x).length ∧ ys.take i = l.filter fun x => !p x := by
  have h1 := h.take
  rw [List.take_of_length_le (Nat.le_refl l.length)] at h1
  refine ⟨?_, h1⟩
  have h2 := congrArg List.length h1
  rw [List.length_take, h.len] at h2
  have := h.lt
  omega
theorem filter_none (h : l.findIdx p = l.length) : l.filter (fun x => !p x) = l := by
  rw [List.filter_eq_self]
  intro x hx
  rw [List.findIdx_eq_length] at h
  rw [h x hx]; rfl
end
end Go.Proofs.YtnnkejolfhhmlaaGreat
