/- graph.Parts: the parts are put in order. -/
import Derived.Test.YtgkclgmekbgjmaaTjV
import Derived.Test.YtgkclgmekbgjmaaShPt
import Derived.Deep.Slices
namespace Go.Proofs.Ytgkclgmekbgjmaa
open Go.RowKit Go.Lib Go.Shelf Go.Sort

namespace Sort1
section
variable {α : Type} [Inhabited α] {enc : α → Value} {w : World} {g : Nat}
theorem holds {l : List α} {base n cap : Nat} {e : TypeId} (ho : w.ownsRow base e 1 (.slice (some ⟨g, 0, none⟩) n cap) n (l.map enc)) : Holds enc w g 0 l.toArray := by
  intro j hj
  have hj' : j < l.length := by simpa using hj
  have hn : n = l.length := by have := ho.1; rw [List.length_map] at this; omega
  subst hn
  refine ⟨?_, ho.frozenAt _⟩
  rw [Nat.zero_add, ho.cellAt j (by omega)]
  simp [hj']
theorem heap {n : Nat} {os : Array Obj} {cur : Array Value} {e : TypeId} {fr : Nat × Nat} (d : Array α) (hb : w.heap[g]? = some (.cells cur e fr)) :
    (grow (putRow enc (Sort.ahead w n) g 0 d) os).heap[g]? = some (.cells (putCells enc 0 d cur) e fr) := by
  have hg : g < w.heap.size := (Array.getElem?_eq_some_iff.1 hb).1
  rw [heap_grow_old _ _ (by simpa [putRow, mapBlock, Sort.ahead] using hg)]
  simp [putRow, mapBlock, Sort.ahead, Array.getElem?_modify, hb, onCells]
theorem grown {n : Nat} {os : Array Obj} (d : Array α) : w.grownBy (sortWorld enc w g 0 n d os) (some g) := by
  unfold sortWorld
  refine ⟨rfl, rfl, rfl, by simp [grow, putRow, mapBlock, Sort.ahead], fun k hk hne => ?_⟩
  rw [heap_grow_old _ _ (by simpa [putRow, mapBlock, Sort.ahead] using hk)]
  have : g ≠ k := fun e => hne (by rw [e])
  simp [putRow, mapBlock, Sort.ahead, Array.getElem?_modify, this]
theorem take_put (cur : Array Value) (ts : List α) (h : ts.length ≤ cur.size) : (putCells enc 0 ts.toArray cur).toList.take ts.length = ts.map enc := by
  apply List.ext_getElem?
  intro j
  by_cases hj : j < ts.length
  · rw [List.getElem?_take_of_lt hj, Array.getElem?_toList]
    simp [putCells, hj, show j < cur.size by omega]
  · rw [List.getElem?_take_eq_none (by omega), List.getElem?_eq_none (by simp; omega)]
theorem after {l l' : List α} {base n cap m : Nat} {e : TypeId} {os : Array Obj} (hl : l'.length = l.length) (ho : w.ownsRow base e 1 (.slice (some ⟨g, 0, none⟩) n cap) n (l.map enc)) :
    (sortWorld enc w g 0 m l'.toArray os).ownsRow base e 1 (.slice (some ⟨g, 0, none⟩) n cap) n (l'.map enc) := by
  have hn : n = l'.length := by have := ho.1; rw [List.length_map] at this; omega
  refine ⟨by rw [List.length_map]; omega, ?_⟩
  rcases ho.2 with ⟨h1, _⟩ | ⟨g', cap', cur, h1, h2, h3, h4, h5, h6, h7⟩
  · cases h1
  · cases h1
    exact .inr ⟨g, cap, _, rfl, h2, heap _ h3, h4, h5, by simp [putCells, h6], by rw [Nat.mul_one, hn]; exact take_put cur l' (by omega)⟩
end
end Sort1

theorem IntsAt.grown {w w' : World} {ao : Option Addr} {l : List Int} {row : Option Nat} (h : IntsAt w ao l) (hg : w.grownBy w' row) (hne : ∀ a, ao = some a → some a.block ≠ row) : IntsAt w' ao l := by
  rcases h with h | ⟨b, off, rfl, hb, hr⟩
  · exact Or.inl h
  · exact Or.inr ⟨b, off, rfl, Nat.lt_of_lt_of_le hb hg.size, fun k hk => hg.cell (hr k hk) (fun e => hne ⟨b, off, none⟩ rfl e)⟩
/-- The first of a part less the first of another one. -/
theorem partCmp_any (x y : List Int) (a b : Addr) (nx ny cx cy : Nat) (w : World) (hx : IntsAt w (some a) x) (hy : IntsAt w (some b) y) (h0 : 0 < x.length) (h1 : 0 < y.length) (hnx : nx = x.length) (hny : ny = y.length) (bx : 0 ≤ x[0] ∧ x[0] ≤ 1000) (by_ : 0 ≤ y[0] ∧ y[0] ≤ 1000) :
    Calls Try.prog 54 #[.slice (some a) nx cx, .slice (some b) ny cy] w fun e w' => e = .returned (.int .i64 (x[0] - y[0])) ∧ ∃ q, w' = w.drewN q := by
  obtain ⟨g, off, e1, _, hrx⟩ := hx.resolve_left (by intro h; rw [h] at h0; simp at h0)
  obtain ⟨g2, off2, e2, _, hry⟩ := hy.resolve_left (by intro h; rw [h] at h1; simp at h1)
  injection e1 with e1
  injection e2 with e2
  subst e1; subst e2
  have c0 := hrx 0 h0
  have d0 := hry 0 h1
  rw [Nat.add_zero] at c0 d0
  generalize x[0] = p at *
  generalize y[0] = q at *
  have hw : IntKind.i64.wrap (p - q) = p - q := by simp [IntKind.wrap, IntKind.bits, IntKind.signed]; omega
  have g1 : decide ((0 : Int) < (nx : Int)) = true := decide_eq_true (by omega)
  have g2 : decide ((0 : Int) < (ny : Int)) = true := decide_eq_true (by omega)
  have g3 : decide (0 < nx) = true := decide_eq_true (by omega)
  have g4 : decide (0 < ny) = true := decide_eq_true (by omega)
  clear hx hy hrx hry bx by_
  go_enter Try.func54, Try.ntmps54
  go_wp2_with fail
  go_quiet (fail)
  go_wp2_with fail
  go_ret
  exact ⟨rfl, _, rfl⟩
theorem tj_shape {w : World} {base e size n : Nat} {v : Value} {xs : List Value} (h : w.ownsRow base e size v n xs) : ∃ ao cap, v = .slice ao n cap := by
  rcases h.2 with ⟨h1, h2⟩ | ⟨g, cap, cur, h1, _⟩
  · exact ⟨none, 0, by rw [h1, h2]⟩
  · exact ⟨_, cap, h1⟩
theorem finRange_vals (m : Nat) : (List.finRange m).map Fin.val = List.range m := by
  apply List.ext_getElem
  · simp
  · intro i h1 h2
    simp
theorem partSort_any (P : List (List Nat)) (v : Nat → Value) (pv : Value) (base : Nat) (w : World) (hT : w.ownsRow base 31 1 pv P.length ((List.range P.length).map v))
    (hR : ∀ i (h : i < P.length), P[i] ≠ [] ∧ (∀ x ∈ P[i], x ≤ 1000) ∧ w.ownsRow base 3 1 (v i) (P[i]).length (intVals (GrM.ints P[i])))
    (hD : ∀ i j (hi : i < P.length) (hj : j < P.length), P[i][0]! = P[j][0]! → i = j) (hlen : P.length ≤ 1000) :
    Calls Try.prog 53 #[pv, .func (.func 54) #[] #[]] w fun e w' => e = .returned (.tuple #[]) ∧ ∃ I : List Nat, I.Perm (List.range P.length) ∧ (I.Pairwise fun i j => (P[i]!)[0]! < (P[j]!)[0]!) ∧ w'.ownsRow base 31 1 pv P.length (I.map v) ∧ w.grownBy w' pv.ownBlock := by
  obtain ⟨ao, cap, hpv⟩ := tj_shape hT
  by_cases h0 : P.length = 0
  · have hcon := AnyF.slices_SortFunc_none (P := Try.prog) (ρ := Try.sortPart_ren) { Try.sortPart with } ao cap (.func (.func 54) #[] #[]) w
    change Calls Try.prog 53 _ _ _ at hcon
    rw [h0] at hpv
    rw [hpv]
    refine hcon.mono ?_
    rintro e w' ⟨rfl, rfl⟩
    have h1 : P = [] := List.eq_nil_of_length_eq_zero h0
    subst h1
    rw [hpv] at hT
    exact ⟨rfl, [], by simp, List.Pairwise.nil, hT, World.grownBy.refl _ _⟩
  · have hpos : 0 < P.length := by omega
    haveI : Inhabited (Fin P.length) := ⟨⟨0, hpos⟩⟩
    rcases hT.2 with ⟨_, h2⟩ | ⟨g, cap', cur, h1, h2, h3, h4, h5⟩
    · omega
    have hT2 := hT
    rw [h1] at hT2 ⊢
    have hsl : ∀ i : Fin P.length, ∃ a c, v i.val = .slice (some a) (P[i.val]).length c ∧ some a.block ≠ some g ∧ IntsAt w (some a) (GrM.ints P[i.val]) := fun i => by
      obtain ⟨r1, _, r3⟩ := hR i.val i.isLt
      obtain ⟨a, c, e, _, hat, _, _⟩ := IntsAt.own r3
      cases a with
      | none =>
        rcases r3.2 with ⟨_, r4⟩ | ⟨g2, c2, cur2, r4, _⟩
        · exact absurd (List.eq_nil_of_length_eq_zero r4) r1
        · rw [r4] at e; cases e
      | some a =>
        refine ⟨a, c, by rw [e]; simp [GrM.ints], fun e2 => ?_, hat⟩
        rcases r3.2 with ⟨r4, _⟩ | ⟨g2, c2, cur2, r4, _, r5, _⟩
        · rw [r4] at e; cases e
        · rw [r4] at e
          injection e with e _ _
          injection e with e
          subst e
          injection e2 with e2
          dsimp only at e2
          subst e2
          rw [h3] at r5
          injection r5 with r5
          injection r5 with _ r6
          exact absurd r6 (by decide)
    have henc : (List.finRange P.length).map (fun i : Fin P.length => v i.val) = (List.range P.length).map v := by
      rw [← finRange_vals, List.map_map]; rfl
    have hcell : OneCell (fun i : Fin P.length => v i.val) := fun i => by
      obtain ⟨a, c, e, _⟩ := hsl i
      dsimp only
      rw [e]; rfl
    have hlt : ∀ x y : Fin P.length, ltOf (fun i j : Fin P.length => ((P[i.val][0]! : Nat) : Int) - ((P[j.val][0]! : Nat) : Int)) x y = decide (P[x.val][0]! < P[y.val][0]!) := fun x y => by
      unfold ltOf
      dsimp only
      rw [Bool.eq_iff_iff, decide_eq_true_iff, decide_eq_true_iff]; omega
    have hO : SWO (ltOf (fun i j : Fin P.length => ((P[i.val][0]! : Nat) : Int) - ((P[j.val][0]! : Nat) : Int))) := ⟨fun x => by rw [hlt]; simp, fun x y z h1 h2 => by rw [hlt] at *; rw [decide_eq_true_iff] at *; omega, fun x y z h1 h2 => by rw [hlt] at *; rw [decide_eq_false_iff_not] at *; omega⟩
    have eg : ∀ args w, (callFunc 54 args).run Try.prog w = .ok (.enter 54 args) w := enters_fn Try.func54 (by kernel_rfl) rfl
    have hho : w.ownsRow base 31 1 (.slice (some ⟨g, 0, none⟩) P.length cap') P.length ((List.finRange P.length).map fun i : Fin P.length => v i.val) := by rw [henc]; exact hT2
    have hcmp : CmpLays1 Try.prog 54 #[] (fun i : Fin P.length => v i.val) (fun i j : Fin P.length => ((P[i.val][0]! : Nat) : Int) - ((P[j.val][0]! : Nat) : Int)) g 0 (List.finRange P.length).toArray.size w := fun mm os dk _ x y => by
      obtain ⟨a, c, ea, na, ha⟩ := hsl x
      obtain ⟨b, c2, eb, nb, hb⟩ := hsl y
      obtain ⟨x1, x2, _⟩ := hR x.val x.isLt
      obtain ⟨y1, y2, _⟩ := hR y.val y.isLt
      have hx0 : 0 < (P[x.val]).length := List.length_pos_iff.2 x1
      have hy0 : 0 < (P[y.val]).length := List.length_pos_iff.2 y1
      have hgx : ∀ (l : List Nat) (h : 0 < l.length), (GrM.ints l)[0]'(by simpa [GrM.ints] using h) = ((l[0]! : Nat) : Int) := fun l h => by
        rw [getElem!_pos l 0 h]; simp [GrM.ints]
      have hbx : ∀ (l : List Nat) (h : 0 < l.length), (∀ x ∈ l, x ≤ 1000) → l[0]! ≤ 1000 := fun l h hl => by
        rw [getElem!_pos l 0 h]; exact hl _ (List.getElem_mem _)
      have hg := Sort1.grown (enc := fun i : Fin P.length => v i.val) (w := w) (g := g) (n := mm) (os := os) dk
      have hbx1 := hbx _ hx0 x2
      have hby1 := hbx _ hy0 y2
      have hcon := partCmp_any (GrM.ints P[x.val]) (GrM.ints P[y.val]) a b (P[x.val]).length (P[y.val]).length c c2 _ (ha.grown hg (fun a' e => by injection e with e; subst e; exact na)) (hb.grown hg (fun a' e => by injection e with e; subst e; exact nb)) (by simpa [GrM.ints] using hx0) (by simpa [GrM.ints] using hy0) (by simp [GrM.ints]) (by simp [GrM.ints]) (by rw [hgx _ hx0]; omega) (by rw [hgx _ hy0]; omega)
      rw [hgx _ hx0, hgx _ hy0] at hcon
      show Calls _ _ #[v x.val, v y.val] _ _
      rw [ea, eb]
      refine hcon.mono ?_
      rintro e w' ⟨rfl, q, rfl⟩
      exact ⟨rfl, q, #[], by rw [grow_empty]⟩
    have hcon := Any.slices_SortFunc_total (P := Try.prog) Try.sortPart (fun i : Fin P.length => v i.val) hcell _ hO 54 #[] g 0 cap' (List.finRange P.length).toArray w eg hcmp (Sort1.holds hho) (Array.getElem?_eq_some_iff.1 h3).1 (by simp; omega) (fun x y hx hy => by
      rw [hlt, decide_eq_false_iff_not] at hx hy
      exact Fin.ext (hD x.val y.val x.isLt y.isLt (by omega)))
    change Calls Try.prog 53 _ _ _ at hcon
    rw [List.size_toArray, List.length_finRange] at hcon
    refine hcon.mono ?_
    rintro e w' ⟨rfl, n, os, rfl⟩
    have hperm := List.mergeSort_perm (List.finRange P.length) (fun x y => !(ltOf (fun i j : Fin P.length => ((P[i.val][0]! : Nat) : Int) - ((P[j.val][0]! : Nat) : Int))) y x)
    refine ⟨rfl, ((List.finRange P.length).mergeSort (fun x y => !(ltOf (fun i j : Fin P.length => ((P[i.val][0]! : Nat) : Int) - ((P[j.val][0]! : Nat) : Int))) y x)).map Fin.val, ?_, ?_, ?_, Sort1.grown _⟩
    · rw [← finRange_vals]; exact hperm.map _
    · rw [List.pairwise_map]
      have h6 := List.pairwise_mergeSort (le := fun x y => !(ltOf (fun i j : Fin P.length => ((P[i.val][0]! : Nat) : Int) - ((P[j.val][0]! : Nat) : Int))) y x) (fun a b c h1 h2 => by
        rw [hlt] at *; simp at *; omega) (fun a b => by rw [hlt, hlt]; simp; omega) (List.finRange P.length)
      have h7 : ((List.finRange P.length).mergeSort (fun x y => !(ltOf (fun i j : Fin P.length => ((P[i.val][0]! : Nat) : Int) - ((P[j.val][0]! : Nat) : Int))) y x)).Nodup := hperm.nodup_iff.2 (by
        rw [List.nodup_iff_pairwise_ne]
        have : ((List.finRange P.length).map Fin.val).Nodup := by rw [finRange_vals]; exact List.nodup_range
        rw [List.nodup_iff_pairwise_ne, List.pairwise_map] at this
        exact this.imp (fun h e => h (by rw [e])))
      refine (h6.and (List.nodup_iff_pairwise_ne.1 h7)).imp ?_
      rintro a b ⟨h8, h9⟩
      rw [hlt, Bool.not_eq_true', decide_eq_false_iff_not] at h8
      rw [getElem!_pos P a.val a.isLt, getElem!_pos P b.val b.isLt]
      refine Nat.lt_of_le_of_ne (by omega) (fun e => h9 (Fin.ext (hD a.val b.val a.isLt b.isLt e)))
    · have := Sort1.after (m := n) (os := os) (l' := (List.finRange P.length).mergeSort (fun x y => !(ltOf (fun i j : Fin P.length => ((P[i.val][0]! : Nat) : Int) - ((P[j.val][0]! : Nat) : Int))) y x)) hperm.length_eq hho
      rw [List.map_map]
      exact this
end Go.Proofs.Ytgkclgmekbgjmaa
