/- Rows of ints of the call's own under slices.Sort and slices.Compact. -/
import Derived.Test.YtnnkejolfhhmlaaGreatInts
import Derived.Test.YtnnkejolfhhmlaaGreatShSort
import Derived.Laws.OwnMore
namespace Go.Proofs.YtnnkejolfhhmlaaGreat
open Go.RowKit Go.Lib Go.Sort

theorem IntSort.put {w : World} {base e n g cap : Nat} {l l' r : List Int} (hl : l'.length = l.length) (ho : w.ownsRow base e 1 (.slice (some ⟨g, 0, none⟩) n cap) n (intVals l)) (m : Nat) (os2 : Array Obj) (q : List Int)
    (hr : l' = r ++ q) :
    (grow (putRow (Value.int .i64) (Sort.ahead w m) g 0 l'.toArray) os2).ownsRow base e 1 (.slice (some ⟨g, 0, none⟩) r.length cap) r.length (intVals r) := by
  have hn : n = l.length := by have := ho.1; rw [intVals_len] at this; omega
  have hrl : r.length ≤ l.length := by rw [← hl, hr, List.length_append]; omega
  refine ⟨by rw [intVals_len]; omega, ?_⟩
  rcases ho.2 with ⟨h', _⟩ | ⟨g', cap', cur, h', hb, hg, hnc, hcm, hcs, htake⟩
  · simp at h'
  · simp only [Value.slice.injEq, Option.some.injEq, Addr.mk.injEq, and_true, true_and] at h'
    obtain ⟨rfl, rfl⟩ := h'
    have hlt : g < w.heap.size := (Array.getElem?_eq_some_iff.1 hg).1
    refine Or.inr ⟨g, cap, putCells (Value.int .i64) 0 l'.toArray cur, rfl, hb, ?_, by omega, hcm, by simp [putCells, hcs], ?_⟩
    · rw [heap_grow_old _ _ (by unfold putRow mapBlock; simpa using hlt)]
      unfold putRow mapBlock
      simp only [Sort.ahead, Array.getElem?_modify, hg, if_true, Option.map_some, onCells]
    · apply List.ext_getElem?
      intro t
      by_cases ht : t < r.length
      · rw [List.getElem?_take_of_lt (by omega), intVals_get ht]
        have h1 : t < l'.length := by omega
        simp only [putCells, Array.getElem?_toList, Array.getElem?_mapIdx]
        rw [Array.getElem?_eq_getElem (by omega), Option.map_some, if_pos (by simp; omega)]
        have h3 : r[t] = l'[t] := by
          have h4 : r[t]? = l'[t]? := by
            rw [hr, List.getElem?_append_left ht]
          rw [List.getElem?_eq_getElem ht, List.getElem?_eq_getElem h1] at h4
          exact Option.some.inj h4
        rw [Nat.sub_zero, getElem!_pos _ t (by simpa using h1), List.getElem_toArray, h3]
      · rw [List.getElem?_eq_none (by simp; omega), List.getElem?_eq_none (by rw [intVals_len]; omega)]
theorem IntSort.grown (w : World) (g : Nat) (l' : List Int) (m : Nat) (os : Array Obj) : w.grownBy (grow (putRow (Value.int .i64) (Sort.ahead w m) g 0 l'.toArray) os) (some g) := by
  refine ⟨rfl, rfl, rfl, by simp [grow, putRow, mapBlock, Sort.ahead], fun j hs hne => ?_⟩
  rw [heap_grow_old _ _ (by simpa [putRow, mapBlock, Sort.ahead] using hs)]
  simp only [putRow, mapBlock, Sort.ahead, Array.getElem?_modify]
  rw [if_neg (fun e => hne (by rw [e]))]
theorem IntSort.holds {w : World} {base e n g cap : Nat} {l : List Int} (ho : w.ownsRow base e 1 (.slice (some ⟨g, 0, none⟩) n cap) n (intVals l)) : Holds (Value.int .i64) w g 0 l.toArray := by
  intro j hj
  have hn : n = l.length := by have := ho.1; rw [intVals_len] at this; omega
  have hj' : j < l.length := by simpa using hj
  rw [Nat.zero_add, ho.cellAt j (by omega), ho.frozenAt j, intVals_get hj']
  refine ⟨?_, rfl⟩
  rw [getElem!_pos _ j (by simpa using hj'), List.getElem_toArray]

/-- Rising lists of the same members are one. -/
theorem IntSort.same : ∀ (a b : List Int), a.Pairwise (· < ·) → b.Pairwise (· < ·) → (∀ x, x ∈ a ↔ x ∈ b) → a = b
  | [], b, _, _, h => by
    cases b with
    | nil => rfl
    | cons y r => exact absurd ((h y).2 List.mem_cons_self) (by simp)
  | x :: r, [], _, _, h => absurd ((h x).1 List.mem_cons_self) (by simp)
  | x :: r, y :: q, ha, hb, h => by
    obtain ⟨h1, h2⟩ := List.pairwise_cons.1 ha
    obtain ⟨h3, h4⟩ := List.pairwise_cons.1 hb
    have e : x = y := by
      rcases List.mem_cons.1 ((h x).1 List.mem_cons_self) with e | hx
      · exact e
      · rcases List.mem_cons.1 ((h y).2 List.mem_cons_self) with e | hy
        · exact e.symm
        · have := h3 x hx; have := h1 y hy; omega
    subst e
    rw [IntSort.same r q h2 h4 (fun z => by
      constructor
      · intro hz
        rcases List.mem_cons.1 ((h z).1 (List.mem_cons_of_mem _ hz)) with rfl | hq
        · have := h1 _ hz; omega
        · exact hq
      · intro hz
        rcases List.mem_cons.1 ((h z).2 (List.mem_cons_of_mem _ hz)) with rfl | hq
        · have := h3 _ hz; omega
        · exact hq)]
theorem IntSort.compact_rise (d : List Int) (hd : d.Pairwise (· ≤ ·)) : (Lib.compact d).Pairwise (· < ·) := by
  unfold Lib.compact Lib.compactUpTo
  rw [List.pairwise_map]
  refine List.Pairwise.imp_of_mem ?_ (List.Pairwise.filter _ List.pairwise_lt_range)
  intro i j hi hj hij
  rw [List.mem_filter, List.mem_range] at hi hj
  have hk := of_decide_eq_true hj.2
  have hne := hk.resolve_left (by omega)
  rw [List.pairwise_iff_getElem] at hd
  have e : ∀ t (ht : t < d.length), d.toArray[t]! = d[t] := fun t ht => by rw [getElem!_pos _ t (by simpa using ht), List.getElem_toArray]
  rw [e j hj.1, e (j - 1) (by omega)] at hne
  rw [e i hi.1, e j hj.1]
  have h1 := hd (j - 1) j (by omega) hj.1 (by omega)
  by_cases h2 : i = j - 1
  · have h3 : d[i]'hi.1 = d[j - 1]'(by omega) := by congr 1
    omega
  · have h4 := hd i (j - 1) hi.1 (by omega) (by omega)
    omega
theorem IntSort.compact_mem (d : List Int) (x : Int) : x ∈ Lib.compact d ↔ x ∈ d := by
  unfold Lib.compact Lib.compactUpTo
  have e : ∀ t (ht : t < d.length), d.toArray[t]! = d[t] := fun t ht => by rw [getElem!_pos _ t (by simpa using ht), List.getElem_toArray]
  rw [List.mem_map]
  constructor
  · rintro ⟨j, hj, rfl⟩
    rw [List.mem_filter, List.mem_range] at hj
    rw [e j hj.1]
    exact List.getElem_mem _
  · intro hx
    have h1 := List.idxOf_lt_length_of_mem hx
    refine ⟨d.idxOf x, ?_, by rw [e _ h1, List.getElem_idxOf]⟩
    rw [List.mem_filter, List.mem_range]
    refine ⟨h1, ?_⟩
    refine decide_eq_true ?_
    by_cases h0 : d.idxOf x = 0
    · exact Or.inl h0
    · right
      intro h2
      rw [e _ h1, e _ (by omega), List.getElem_idxOf] at h2
      have h3 := List.not_of_lt_findIdx (xs := d) (p := fun y => y == x) (i := d.idxOf x - 1) (by show _ < d.idxOf x; omega)
      simp at h3
      exact h3 h2.symm
theorem IntSort.compact_len (d : List Int) : (Lib.compact d).length ≤ d.length := by
  unfold Lib.compact Lib.compactUpTo
  rw [List.length_map]
  exact Nat.le_trans (List.length_filter_le _ _) (by simp)
theorem IntSort.sorted (l : List Int) : (l.mergeSort fun x y => decide (x ≤ y)).Pairwise (· ≤ ·) := by
  have := List.pairwise_mergeSort (le := fun x y : Int => decide (x ≤ y)) (by intro a b c h1 h2; simp at *; omega) (by intro a b; simp; omega) l
  refine List.Pairwise.imp ?_ this
  intro a b h; simpa using h

theorem sort_ints (l : List Int) (g cap base e : Nat) (w : World) (ho : w.ownsRow base e 1 (.slice (some ⟨g, 0, none⟩) l.length cap) l.length (intVals l)) (hn : l.length ≤ 9000000000) :
    Calls Tryz.prog 114 #[.slice (some ⟨g, 0, none⟩) l.length cap] w fun e' w' => e' = .returned (.tuple #[]) ∧ w'.ownsRow base e 1 (.slice (some ⟨g, 0, none⟩) l.length cap) l.length (intVals (l.mergeSort fun x y => decide (x ≤ y))) ∧ w.grownBy w' (some g) := by
  have hlt := ho.lt g rfl
  refine (Tryz.slices_Sort_int g 0 cap l w (IntSort.holds ho) hlt.2 (by omega)).mono ?_
  rintro e' w' ⟨rfl, m, os, rfl⟩
  have hl : (l.mergeSort fun x y => decide (x ≤ y)).length = l.length := List.length_mergeSort _
  refine ⟨rfl, ?_, IntSort.grown _ _ _ _ _⟩
  have := IntSort.put (r := l.mergeSort fun x y => decide (x ≤ y)) hl ho m os [] (by rw [List.append_nil])
  rw [hl] at this
  exact this
theorem compact_ints (l : List Int) (g cap base e : Nat) (w : World) (ho : w.ownsRow base e 1 (.slice (some ⟨g, 0, none⟩) l.length cap) l.length (intVals l)) (hn : l.length ≤ 9000000000) :
    Calls Tryz.prog 146 #[.slice (some ⟨g, 0, none⟩) l.length cap] w fun e' w' => e' = .returned (.slice (some ⟨g, 0, none⟩) (Lib.compact l).length cap) ∧ w'.ownsRow base e 1 (.slice (some ⟨g, 0, none⟩) (Lib.compact l).length cap) (Lib.compact l).length (intVals (Lib.compact l)) ∧ w.grownBy w' (some g) := by
  obtain ⟨_, _, h3, _, _, hle⟩ := ownsRow_shape ho (by intro h; cases h)
  injection h3 with _ h4 h5
  subst h5
  refine (Tryz.slices_Compact_int g 0 cap l w (IntSort.holds ho) (by omega) hle).mono ?_
  rintro e' w' ⟨rfl, m, rfl⟩
  have hcl := IntSort.compact_len l
  have hl : (Lib.compact l ++ List.replicate (l.length - (Lib.compact l).length) 0).length = l.length := by simp; omega
  have h1 := IntSort.put (r := Lib.compact l) hl ho m #[] _ rfl
  have h2 := IntSort.grown w g (Lib.compact l ++ List.replicate (l.length - (Lib.compact l).length) 0) m #[]
  have e0 : ∀ W : World, grow W #[] = W := fun W => by simp [grow]
  rw [e0] at h1 h2
  exact ⟨rfl, h1, h2⟩
end Go.Proofs.YtnnkejolfhhmlaaGreat
