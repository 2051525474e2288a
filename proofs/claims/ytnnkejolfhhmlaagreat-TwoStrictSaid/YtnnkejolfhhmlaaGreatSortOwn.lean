/- A row of the call's own under the library's sort. -/
import Derived.Test.YtnnkejolfhhmlaaGreatHeap
import Derived.Shelf.SlSortCmp.NoneTotal
import Derived.Laws.OwnMore
namespace Go.Proofs.YtnnkejolfhhmlaaGreat
open Go.RowKit Go.Lib Go.Sort

section
variable {α : Type} [Inhabited α] {enc : α → List Value} {k : Nat}
theorem SortM.flat_get (hk : ∀ x, (enc x).length = k) : ∀ (l : List α) (t : Nat), t < l.length * k → (l.flatMap enc)[t]? = some ((enc l[t / k]!)[t % k]!)
  | [], t, h => by simp at h
  | a :: l, t, h => by
    have k0 : 0 < k := by
      rcases Nat.eq_zero_or_pos k with h0 | h0
      · subst h0; simp at h
      · exact h0
    rw [List.flatMap_cons]
    by_cases ht : t < k
    · rw [List.getElem?_append_left (by rw [hk]; exact ht), Nat.div_eq_of_lt ht, Nat.mod_eq_of_lt ht]
      have h1 : t < (enc a).length := by rw [hk]; exact ht
      rw [List.getElem?_eq_getElem h1]
      simp [getElem!_pos (enc a) t h1]
    · obtain ⟨s, rfl⟩ : ∃ s, t = s + k := ⟨t - k, by omega⟩
      have hs : s < l.length * k := by
        rw [List.length_cons, Nat.add_mul, Nat.one_mul] at h; omega
      rw [List.getElem?_append_right (by rw [hk]; omega), hk, Nat.add_sub_cancel, SortM.flat_get hk l s hs, Nat.add_div_right _ k0, Nat.add_mod_right]
      simp
omit [Inhabited α] in
theorem SortM.flat_len (hk : ∀ x, (enc x).length = k) (l : List α) : (l.flatMap enc).length = l.length * k := by
  induction l with
  | nil => simp
  | cons a l ih => rw [List.flatMap_cons, List.length_append, hk, ih, List.length_cons, Nat.add_mul]; omega
theorem SortM.flat (hk : ∀ x, (enc x).length = k) (l : List α) : (flatK enc k l.toArray).toList = l.flatMap enc := by
  apply List.ext_getElem?
  intro t
  by_cases ht : t < l.length * k
  · have h1 : t < (flatK enc k l.toArray).toList.length := by simpa using ht
    rw [SortM.flat_get hk l t ht, List.getElem?_eq_getElem h1]
    have h2 := get_flatK enc k l.toArray t (by simpa using ht)
    rw [getElem!_pos _ t (by simpa using ht)] at h2
    rw [Array.getElem_toList, h2]
    simp
  · rw [List.getElem?_eq_none (by simp; omega), List.getElem?_eq_none (by rw [SortM.flat_len hk]; omega)]

variable {w : World} {base e n g cap : Nat}
theorem SortM.holds (hk : ∀ x, (enc x).length = k) {l : List α} (ho : w.ownsRow base e k (.slice (some ⟨g, 0, none⟩) n cap) n (l.flatMap enc)) : HoldsK enc k w g 0 l.toArray := by
  intro j hj
  have hn : n * k = l.length * k := by have := ho.1; rw [SortM.flat_len hk] at this; omega
  have hj' : j < l.length * k := by simpa using hj
  rw [Nat.zero_add, ho.cellAt j (by omega), ho.frozenAt j]
  refine ⟨?_, rfl⟩
  rw [SortM.flat_get hk l j hj', get_flatK enc k l.toArray j (by simpa using hj')]
  simp
theorem SortM.after (hk : ∀ x, (enc x).length = k) {l l' : List α} (hl : l'.length = l.length) (ho : w.ownsRow base e k (.slice (some ⟨g, 0, none⟩) n cap) n (l.flatMap enc)) (m : Nat) (os : Array Obj) :
    (sortWorldK enc k w g 0 m l'.toArray os).ownsRow base e k (.slice (some ⟨g, 0, none⟩) n cap) n (l'.flatMap enc) := by
  have hn : n * k = l.length * k := by have := ho.1; rw [SortM.flat_len hk] at this; omega
  refine ⟨by rw [SortM.flat_len hk, hl, hn], ?_⟩
  rcases ho.2 with ⟨h', _⟩ | ⟨g', cap', cur, h', hb, hg, hnc, hcm, hcs, htake⟩
  · simp at h'
  · simp only [Value.slice.injEq, Option.some.injEq, Addr.mk.injEq, and_true, true_and] at h'
    obtain ⟨rfl, rfl⟩ := h'
    have hlt : g < w.heap.size := (Array.getElem?_eq_some_iff.1 hg).1
    refine Or.inr ⟨g, cap, putCells id 0 (flatK enc k l'.toArray) cur, rfl, hb, ?_, hnc, hcm, by simp [putCells, hcs], ?_⟩
    · unfold sortWorldK
      rw [heap_grow_old _ _ (by unfold putRowK putRow mapBlock; simpa using hlt)]
      unfold putRowK putRow mapBlock
      simp only [Sort.ahead, Array.getElem?_modify, hg, if_true, Option.map_some, onCells]
    · have hc : n * k ≤ cur.size := by rw [hcs]; exact Nat.mul_le_mul_right k hnc
      rw [← SortM.flat hk l']
      apply List.ext_getElem?
      intro t
      by_cases ht : t < n * k
      · have h1 : t < l'.length * k := by rw [hl]; omega
        rw [List.getElem?_take_of_lt ht]
        simp only [putCells, Array.getElem?_toList, Array.getElem?_mapIdx]
        rw [Array.getElem?_eq_getElem (by omega), Option.map_some, if_pos (by simp; omega)]
        have h2 : t < (flatK enc k l'.toArray).size := by simpa using h1
        rw [Nat.sub_zero, Array.getElem?_eq_getElem h2, getElem!_pos _ t h2]
        rfl
      · rw [List.getElem?_eq_none (by simp; omega), List.getElem?_eq_none (by simp [hl]; omega)]
theorem SortM.grown (l' : List α) (m : Nat) (os : Array Obj) : w.grownBy (sortWorldK enc k w g 0 m l'.toArray os) (some g) := by
  refine ⟨rfl, rfl, rfl, by simp [sortWorldK, grow, putRowK, putRow, mapBlock, Sort.ahead], fun j hs hne => ?_⟩
  unfold sortWorldK
  rw [heap_grow_old _ _ (by simpa [putRowK, putRow, mapBlock, Sort.ahead] using hs)]
  simp only [putRowK, putRow, mapBlock, Sort.ahead, Array.getElem?_modify]
  rw [if_neg (fun e => hne (by rw [e]))]
end
end Go.Proofs.YtnnkejolfhhmlaaGreat
