/- GraphParts, in plain Lean. -/
import Derived.Test.YtnnkejolfhhmlaaTjV
import Derived.Test.YtnnkejolfhhmlaaShPt
import Derived.Deep.Slices
import Derived.Deep.RegionLaw
namespace Go.Proofs.Ytnnkejolfhhmlaa
section
open Go.RowKit Go.Lib Go.Shelf Go.Sort

namespace Sort1
section
variable {α : Type} [Inhabited α] {enc : α → Value} {w : World} {g : Nat}
theorem holds {l : List α} {base n cap : Nat} {e : TypeId} (ho : w.ownsRow base e 1 (.slice (some ⟨g, 0, none⟩) n cap) n (l.map enc)) : Holds enc w g 0 l.toArray := by
  intro j hj
  have hj' : j < l.length := by simpa using hj
  have hn : n = l.length := by have := ho.1; rw [List.length_map] at this; omega
  subst hn
  refine ⟨?_, ho.frozenAt _⟩
  rw [Nat.zero_add, ho.cellAt j (by omega)]
  simp [hj']
theorem heap {n : Nat} {os : Array Obj} {cur : Array Value} {e : TypeId} {fr : Nat × Nat} (d : Array α) (hb : w.heap[g]? = some (.cells cur e fr)) :
    (grow (putRow enc (Sort.ahead w n) g 0 d) os).heap[g]? = some (.cells (putCells enc 0 d cur) e fr) := by
  have hg : g < w.heap.size := (Array.getElem?_eq_some_iff.1 hb).1
  rw [heap_grow_old _ _ (by simpa [putRow, mapBlock, Sort.ahead] using hg)]
  simp [putRow, mapBlock, Sort.ahead, Array.getElem?_modify, hb, onCells]
theorem grown {n : Nat} {os : Array Obj} (d : Array α) : w.grownBy (sortWorld enc w g 0 n d os) (some g) := by
  unfold sortWorld
  refine ⟨rfl, rfl, rfl, by simp [grow, putRow, mapBlock, Sort.ahead], fun k hk hne => ?_⟩
  rw [heap_grow_old _ _ (by simpa [putRow, mapBlock, Sort.ahead] using hk)]
  have : g ≠ k := fun e => hne (by rw [e])
  simp [putRow, mapBlock, Sort.ahead, Array.getElem?_modify, this]
theorem take_put (cur : Array Value) (ts : List α) (h : ts.length ≤ cur.size) : (putCells enc 0 ts.toArray cur).toList.take ts.length = ts.map enc := by
  apply List.ext_getElem?
  intro j
  by_cases hj : j < ts.length
  · rw [List.getElem?_take_of_lt hj, Array.getElem?_toList]
    simp [putCells, hj, show j < cur.size by omega]
  · rw [List.getElem?_take_eq_none (by omega), List.getElem?_eq_none (by simp; omega)]
theorem after {l l' : List α} {base n cap m : Nat} {e : TypeId} {os : Array Obj} (hl : l'.length = l.length) (ho : w.ownsRow base e 1 (.slice (some ⟨g, 0, none⟩) n cap) n (l.map enc)) :
    (sortWorld enc w g 0 m l'.toArray os).ownsRow base e 1 (.slice (some ⟨g, 0, none⟩) n cap) n (l'.map enc) := by
  have hn : n = l'.length := by have := ho.1; rw [List.length_map] at this; omega
  refine ⟨by rw [List.length_map]; omega, ?_⟩
  rcases ho.2 with ⟨h1, _⟩ | ⟨g', cap', cur, h1, h2, h3, h4, h5, h6, h7⟩
  · cases h1
  · cases h1
    exact .inr ⟨g, cap, _, rfl, h2, heap _ h3, h4, h5, by simp [putCells, h6], by rw [Nat.mul_one, hn]; exact take_put cur l' (by omega)⟩
end
end Sort1

theorem IntsAt.grown {w w' : World} {ao : Option Addr} {l : List Int} {row : Option Nat} (h : IntsAt w ao l) (hg : w.grownBy w' row) (hne : ∀ a, ao = some a → some a.block ≠ row) : IntsAt w' ao l := by
  rcases h with h | ⟨b, off, rfl, hb, hr⟩
  · exact Or.inl h
  · exact Or.inr ⟨b, off, rfl, Nat.lt_of_lt_of_le hb hg.size, fun k hk => hg.cell (hr k hk) (fun e => hne ⟨b, off, none⟩ rfl e)⟩
/-- The first of a part less the first of another one. -/
theorem partCmp_any (x y : List Int) (a b : Addr) (nx ny cx cy : Nat) (w : World) (hx : IntsAt w (some a) x) (hy : IntsAt w (some b) y) (h0 : 0 < x.length) (h1 : 0 < y.length) (hnx : nx = x.length) (hny : ny = y.length) (bx : 0 ≤ x[0] ∧ x[0] ≤ 1000) (by_ : 0 ≤ y[0] ∧ y[0] ≤ 1000) :
    Calls Try.prog 64 #[.slice (some a) nx cx, .slice (some b) ny cy] w fun e w' => e = .returned (.int .i64 (x[0] - y[0])) ∧ ∃ q, w' = w.drewN q := by
  obtain ⟨g, off, e1, _, hrx⟩ := hx.resolve_left (by intro h; rw [h] at h0; simp at h0)
  obtain ⟨g2, off2, e2, _, hry⟩ := hy.resolve_left (by intro h; rw [h] at h1; simp at h1)
  injection e1 with e1
  injection e2 with e2
  subst e1; subst e2
  have c0 := hrx 0 h0
  have d0 := hry 0 h1
  rw [Nat.add_zero] at c0 d0
  generalize x[0] = p at *
  generalize y[0] = q at *
  have hw : IntKind.i64.wrap (p - q) = p - q := by simp [IntKind.wrap, IntKind.bits, IntKind.signed]; omega
  have g1 : decide ((0 : Int) < (nx : Int)) = true := decide_eq_true (by omega)
  have g2 : decide ((0 : Int) < (ny : Int)) = true := decide_eq_true (by omega)
  have g3 : decide (0 < nx) = true := decide_eq_true (by omega)
  have g4 : decide (0 < ny) = true := decide_eq_true (by omega)
  clear hx hy hrx hry bx by_
  go_enter Try.func64, Try.ntmps64
  go_wp2_with fail
  go_quiet (fail)
  go_wp2_with fail
  go_ret
  exact ⟨rfl, _, rfl⟩
theorem tj_shape {w : World} {base e size n : Nat} {v : Value} {xs : List Value} (h : w.ownsRow base e size v n xs) : ∃ ao cap, v = .slice ao n cap := by
  rcases h.2 with ⟨h1, h2⟩ | ⟨g, cap, cur, h1, _⟩
  · exact ⟨none, 0, by rw [h1, h2]⟩
  · exact ⟨_, cap, h1⟩
theorem finRange_vals (m : Nat) : (List.finRange m).map Fin.val = List.range m := by
  apply List.ext_getElem
  · simp
  · intro i h1 h2
    simp
theorem partSort_any (P : List (List Nat)) (v : Nat → Value) (pv : Value) (base : Nat) (w : World) (hT : w.ownsRow base 23 1 pv P.length ((List.range P.length).map v))
    (hR : ∀ i (h : i < P.length), P[i] ≠ [] ∧ (∀ x ∈ P[i], x ≤ 1000) ∧ w.ownsRow base 3 1 (v i) (P[i]).length (intVals (GrM.ints P[i])))
    (hD : ∀ i j (hi : i < P.length) (hj : j < P.length), P[i][0]! = P[j][0]! → i = j) (hlen : P.length ≤ 1000) :
    Calls Try.prog 63 #[pv, .func (.func 64) #[] #[]] w fun e w' => e = .returned (.tuple #[]) ∧ ∃ I : List Nat, I.Perm (List.range P.length) ∧ (I.Pairwise fun i j => (P[i]!)[0]! < (P[j]!)[0]!) ∧ w'.ownsRow base 23 1 pv P.length (I.map v) ∧ w.grownBy w' pv.ownBlock := by
  obtain ⟨ao, cap, hpv⟩ := tj_shape hT
  by_cases h0 : P.length = 0
  · have hcon := AnyF.slices_SortFunc_none (P := Try.prog) (ρ := Try.sortPart_ren) { Try.sortPart with } ao cap (.func (.func 64) #[] #[]) w
    change Calls Try.prog 63 _ _ _ at hcon
    rw [h0] at hpv
    rw [hpv]
    refine hcon.mono ?_
    rintro e w' ⟨rfl, rfl⟩
    have h1 : P = [] := List.eq_nil_of_length_eq_zero h0
    subst h1
    rw [hpv] at hT
    exact ⟨rfl, [], by simp, List.Pairwise.nil, hT, World.grownBy.refl _ _⟩
  · have hpos : 0 < P.length := by omega
    haveI : Inhabited (Fin P.length) := ⟨⟨0, hpos⟩⟩
    rcases hT.2 with ⟨_, h2⟩ | ⟨g, cap', cur, h1, h2, h3, h4, h5⟩
    · omega
    have hT2 := hT
    rw [h1] at hT2 ⊢
    have hsl : ∀ i : Fin P.length, ∃ a c, v i.val = .slice (some a) (P[i.val]).length c ∧ some a.block ≠ some g ∧ IntsAt w (some a) (GrM.ints P[i.val]) := fun i => by
      obtain ⟨r1, _, r3⟩ := hR i.val i.isLt
      obtain ⟨a, c, e, _, hat, _, _⟩ := IntsAt.own r3
      cases a with
      | none =>
        rcases r3.2 with ⟨_, r4⟩ | ⟨g2, c2, cur2, r4, _⟩
        · exact absurd (List.eq_nil_of_length_eq_zero r4) r1
        · rw [r4] at e; cases e
      | some a =>
        refine ⟨a, c, by rw [e]; simp [GrM.ints], fun e2 => ?_, hat⟩
        rcases r3.2 with ⟨r4, _⟩ | ⟨g2, c2, cur2, r4, _, r5, _⟩
        · rw [r4] at e; cases e
        · rw [r4] at e
          injection e with e _ _
          injection e with e
          subst e
          injection e2 with e2
          dsimp only at e2
          subst e2
          rw [h3] at r5
          injection r5 with r5
          injection r5 with _ r6
          exact absurd r6 (by decide)
    have henc : (List.finRange P.length).map (fun i : Fin P.length => v i.val) = (List.range P.length).map v := by
      rw [← finRange_vals, List.map_map]; rfl
    have hcell : OneCell (fun i : Fin P.length => v i.val) := fun i => by
      obtain ⟨a, c, e, _⟩ := hsl i
      dsimp only
      rw [e]; rfl
    have hlt : ∀ x y : Fin P.length, ltOf (fun i j : Fin P.length => ((P[i.val][0]! : Nat) : Int) - ((P[j.val][0]! : Nat) : Int)) x y = decide (P[x.val][0]! < P[y.val][0]!) := fun x y => by
      unfold ltOf
      dsimp only
      rw [Bool.eq_iff_iff, decide_eq_true_iff, decide_eq_true_iff]; omega
    have hO : SWO (ltOf (fun i j : Fin P.length => ((P[i.val][0]! : Nat) : Int) - ((P[j.val][0]! : Nat) : Int))) := ⟨fun x => by rw [hlt]; simp, fun x y z h1 h2 => by rw [hlt] at *; rw [decide_eq_true_iff] at *; omega, fun x y z h1 h2 => by rw [hlt] at *; rw [decide_eq_false_iff_not] at *; omega⟩
    have eg : ∀ args w, (callFunc 64 args).run Try.prog w = .ok (.enter 64 args) w := enters_fn Try.func64 (by kernel_rfl) rfl
    have hho : w.ownsRow base 23 1 (.slice (some ⟨g, 0, none⟩) P.length cap') P.length ((List.finRange P.length).map fun i : Fin P.length => v i.val) := by rw [henc]; exact hT2
    have hcmp : CmpLays1 Try.prog 64 #[] (fun i : Fin P.length => v i.val) (fun i j : Fin P.length => ((P[i.val][0]! : Nat) : Int) - ((P[j.val][0]! : Nat) : Int)) g 0 (List.finRange P.length).toArray.size w := fun mm os dk _ x y => by
      obtain ⟨a, c, ea, na, ha⟩ := hsl x
      obtain ⟨b, c2, eb, nb, hb⟩ := hsl y
      obtain ⟨x1, x2, _⟩ := hR x.val x.isLt
      obtain ⟨y1, y2, _⟩ := hR y.val y.isLt
      have hx0 : 0 < (P[x.val]).length := List.length_pos_iff.2 x1
      have hy0 : 0 < (P[y.val]).length := List.length_pos_iff.2 y1
      have hgx : ∀ (l : List Nat) (h : 0 < l.length), (GrM.ints l)[0]'(by simpa [GrM.ints] using h) = ((l[0]! : Nat) : Int) := fun l h => by
        rw [getElem!_pos l 0 h]; simp [GrM.ints]
      have hbx : ∀ (l : List Nat) (h : 0 < l.length), (∀ x ∈ l, x ≤ 1000) → l[0]! ≤ 1000 := fun l h hl => by
        rw [getElem!_pos l 0 h]; exact hl _ (List.getElem_mem _)
      have hg := Sort1.grown (enc := fun i : Fin P.length => v i.val) (w := w) (g := g) (n := mm) (os := os) dk
      have hbx1 := hbx _ hx0 x2
      have hby1 := hbx _ hy0 y2
      have hcon := partCmp_any (GrM.ints P[x.val]) (GrM.ints P[y.val]) a b (P[x.val]).length (P[y.val]).length c c2 _ (ha.grown hg (fun a' e => by injection e with e; subst e; exact na)) (hb.grown hg (fun a' e => by injection e with e; subst e; exact nb)) (by simpa [GrM.ints] using hx0) (by simpa [GrM.ints] using hy0) (by simp [GrM.ints]) (by simp [GrM.ints]) (by rw [hgx _ hx0]; omega) (by rw [hgx _ hy0]; omega)
      rw [hgx _ hx0, hgx _ hy0] at hcon
      show Calls _ _ #[v x.val, v y.val] _ _
      rw [ea, eb]
      refine hcon.mono ?_
      rintro e w' ⟨rfl, q, rfl⟩
      exact ⟨rfl, q, #[], by rw [grow_empty]⟩
    have hcon := Any.slices_SortFunc_total (P := Try.prog) Try.sortPart (fun i : Fin P.length => v i.val) hcell _ hO 64 #[] g 0 cap' (List.finRange P.length).toArray w eg hcmp (Sort1.holds hho) (Array.getElem?_eq_some_iff.1 h3).1 (by simp; omega) (fun x y hx hy => by
      rw [hlt, decide_eq_false_iff_not] at hx hy
      exact Fin.ext (hD x.val y.val x.isLt y.isLt (by omega)))
    change Calls Try.prog 63 _ _ _ at hcon
    rw [List.size_toArray, List.length_finRange] at hcon
    refine hcon.mono ?_
    rintro e w' ⟨rfl, n, os, rfl⟩
    have hperm := List.mergeSort_perm (List.finRange P.length) (fun x y => !(ltOf (fun i j : Fin P.length => ((P[i.val][0]! : Nat) : Int) - ((P[j.val][0]! : Nat) : Int))) y x)
    refine ⟨rfl, ((List.finRange P.length).mergeSort (fun x y => !(ltOf (fun i j : Fin P.length => ((P[i.val][0]! : Nat) : Int) - ((P[j.val][0]! : Nat) : Int))) y x)).map Fin.val, ?_, ?_, ?_, Sort1.grown _⟩
    · rw [← finRange_vals]; exact hperm.map _
    · rw [List.pairwise_map]
      have h6 := List.pairwise_mergeSort (le := fun x y => !(ltOf (fun i j : Fin P.length => ((P[i.val][0]! : Nat) : Int) - ((P[j.val][0]! : Nat) : Int))) y x) (fun a b c h1 h2 => by
        rw [hlt] at *; simp at *; omega) (fun a b => by rw [hlt, hlt]; simp; omega) (List.finRange P.length)
      have h7 : ((List.finRange P.length).mergeSort (fun x y => !(ltOf (fun i j : Fin P.length => ((P[i.val][0]! : Nat) : Int) - ((P[j.val][0]! : Nat) : Int))) y x)).Nodup := hperm.nodup_iff.2 (by
        rw [List.nodup_iff_pairwise_ne]
        have : ((List.finRange P.length).map Fin.val).Nodup := by rw [finRange_vals]; exact List.nodup_range
        rw [List.nodup_iff_pairwise_ne, List.pairwise_map] at this
        exact this.imp (fun h e => h (by rw [e])))
      refine (h6.and (List.nodup_iff_pairwise_ne.1 h7)).imp ?_
      rintro a b ⟨h8, h9⟩
      rw [hlt, Bool.not_eq_true', decide_eq_false_iff_not] at h8
      rw [getElem!_pos P a.val a.isLt, getElem!_pos P b.val b.isLt]
      refine Nat.lt_of_le_of_ne (by omega) (fun e => h9 (Fin.ext (hD a.val b.val a.isLt b.isLt e)))
    · have := Sort1.after (m := n) (os := os) (l' := (List.finRange P.length).mergeSort (fun x y => !(ltOf (fun i j : Fin P.length => ((P[i.val][0]! : Nat) : Int) - ((P[j.val][0]! : Nat) : Int))) y x)) hperm.length_eq hho
      rw [List.map_map]
      exact this
end
section
open Go.RowKit Go.Lib

/-- The parts of a graph: nodes of one come to each other. -/
structure TjM.IsParts (n : Nat) (l : List EgM) (P : List (List Nat)) : Prop where
  nd : P.flatten.Nodup
  mem : ∀ x, x ∈ P.flatten ↔ x < n
  scc : ∀ p ∈ P, p ≠ [] ∧ p.Pairwise (· < ·) ∧ ∀ a ∈ p, ∀ b, b < n → (b ∈ p ↔ TjM.R n l a b ∧ TjM.R n l b a)
theorem TjM.flat_apart : ∀ (L : List (List Nat)), L.flatten.Nodup → ∀ i j (hi : i < L.length) (hj : j < L.length), i < j → ∀ x ∈ L[i], x ∉ L[j]
  | [], _, i, _, hi, _, _, _, _ => by simp at hi
  | p :: r, h, i, j, hi, hj, hij, x, hx => by
    rw [List.flatten_cons, List.nodup_append] at h
    cases j with
    | zero => omega
    | succ j =>
      cases i with
      | zero => exact fun h2 => h.2.2 x hx x (List.mem_flatten.2 ⟨_, List.getElem_mem (by simpa using hj), h2⟩) rfl
      | succ i => exact TjM.flat_apart r h.2.1 i j (by simpa using hi) (by simpa using hj) (by omega) x hx
theorem TjM.flat_one {L : List (List Nat)} (h : L.flatten.Nodup) {i j : Nat} (hi : i < L.length) (hj : j < L.length) {x : Nat} (h1 : x ∈ L[i]) (h2 : x ∈ L[j]) : i = j := by
  rcases Nat.lt_trichotomy i j with h3 | h3 | h3
  · exact absurd h2 (TjM.flat_apart L h i j hi hj h3 x h1)
  · exact h3
  · exact absurd h1 (TjM.flat_apart L h j i hj hi h3 x h2)
theorem TjM.all {n : Nat} {l : List EgM} {s : TjSt} (h : TjM.Inv n l [] s) (ha : ∀ x, x < n → s.when x ≠ 0) : TjM.IsParts n l s.parts := by
  have hst : s.stack = [] := by
    cases hs : s.stack with
    | nil => rfl
    | cons a r =>
      obtain ⟨g, hg, _⟩ := h.dn a (by rw [hs]; exact List.mem_cons_self)
      cases hg
  refine ⟨h.nd, fun x => ?_, h.scc⟩
  rw [h.pm, hst]
  exact ⟨fun h2 => h.vis x h2.1, fun h2 => ⟨ha x h2, by simp⟩⟩
theorem TjM.IsParts.perm {n : Nat} {l : List EgM} {P Q : List (List Nat)} (h : TjM.IsParts n l P) (hp : Q.Perm P) : TjM.IsParts n l Q :=
  ⟨hp.flatten.nodup_iff.2 h.nd, fun x => hp.flatten.mem_iff.trans (h.mem x), fun p hpq => h.scc p (hp.mem_iff.1 hpq)⟩
theorem TjM.IsParts.len {n : Nat} {l : List EgM} {P : List (List Nat)} (h : TjM.IsParts n l P) : P.length ≤ n := by
  have h1 := TjM.flat_len P (fun p hp => (h.scc p hp).1)
  have h2 := List.Nodup.length_le_of_subset h.nd (l₂ := List.range n) (fun x hx => List.mem_range.2 ((h.mem x).1 hx))
  rw [List.length_range] at h2; omega
/-- What Parts answers. -/
def TjM.PartsPost (n : Int) (l : List EgM) (w : World) (e : Ending) (w' : World) : Prop :=
  Below w.heap.size w w' ∧ ((GrM.check n l ≠ 0 ∧ e = .returned (.tuple #[.slice none 0 0, .int .i64 (GrM.check n l)])) ∨
    (GrM.check n l = 0 ∧ ∃ P v pv, e = .returned (.tuple #[pv, .int .i64 0]) ∧ TjM.IsParts n.toNat l P ∧ (P.Pairwise fun p q => p[0]! < q[0]!) ∧ w'.ownsRow w.heap.size 23 1 pv P.length ((List.range P.length).map v) ∧
      ∀ i (h : i < P.length), w'.ownsRow w.heap.size 3 1 (v i) (P[i]).length (intVals (GrM.ints P[i]))))

/-- The walker as it begins. -/
structure TjStart (n : Nat) (l : List EgM) (w wx : World) (O A B W : Nat) (a : Nat → Option Addr) (c : Nat → Nat) : Prop where
  below : Below w.heap.size w wx
  blk : Blk wx W 108 (TjM.cells n O A B (.slice none 0 0) (.slice none 0 0) 0)
  wt : ITab wx A n (fun _ => 0)
  lt : ITab wx B n (fun _ => 0)
  fix_ : TjFix n l w wx O A B W wx.heap.size a c
theorem TjStart.mk' {n : Nat} {l : List EgM} {w wx wc : World} {O A B W bs : Nat} {v : Nat → Value} (hb : Below w.heap.size w wx) (hA : Blk wx A 3 (Tab n (fun _ => Value.int .i64 0))) (hB : Blk wx B 3 (Tab n (fun _ => Value.int .i64 0)))
    (hR : GrM.Rows wc bs O n v (fun i => GrM.ints (GrM.next n l i))) (hle : Below wc.heap.size wc wx)
    (hW : Blk wx W 108 (TjM.cells n O A B (.slice none 0 0) (.slice none 0 0) 0))
    (h1 : (A < bs ∨ wc.heap.size ≤ A) ∧ (B < bs ∨ wc.heap.size ≤ B) ∧ (W < bs ∨ wc.heap.size ≤ W)) (h2 : w.heap.size ≤ A ∧ w.heap.size ≤ B ∧ w.heap.size ≤ W) (h3 : A ≠ B) : ∃ a c, TjStart n l w wx O A B W a c := by
  have hsh : ∀ k : Nat, ∃ p : Option Addr × Nat, k < n → v k = .slice p.1 (GrM.next n l k).length p.2 := fun k => by
    by_cases hk : k < n
    · obtain ⟨a, c, e, _⟩ := hR.shape hk
      exact ⟨(a, c), fun _ => by rw [e]; simp [GrM.ints]⟩
    · exact ⟨(none, 0), fun h => absurd h hk⟩
  obtain ⟨p, hp⟩ := Classical.axiomOfChoice hsh
  refine ⟨fun k => (p k).1, fun k => (p k).2, hb, hW, hA, hB, ⟨hA.lt, hB.lt, hW.lt⟩, ⟨h2.1, h2.2.1, h2.2.2, hb.size⟩, h3, fun wr hK k hk => ?_⟩
  have hO : Blk wx O _ _ := hR.blk.after hle
  have hOA : O ≠ A := Blk.ne hO hA (by decide)
  have hOB : O ≠ B := Blk.ne hO hB (by decide)
  have hOW : O ≠ W := Blk.ne hO hW (by decide)
  have hO2 : Blk wr O _ _ := (hK.at_ O hO.lt hOA hOB hOW).trans hO
  refine ⟨by rw [hO2.tabCell hk, hp k hk], ?_⟩
  have hown := hR.fam.own k hk
  obtain ⟨a, cc, e, _, hat, _, _⟩ := IntsAt.own hown
  rw [hp k hk] at e
  injection e with e1 _ _
  rw [e1]
  rcases hat with h | ⟨g, off, hg, hgl, hrow⟩
  · exact Or.inl h
  · have hgw : bs ≤ g ∧ g < wc.heap.size := by
      have := hown.lt g (by rw [hp k hk, e1, hg]; rfl)
      exact this
    have hx := hle.size
    have hkk : wr.heap[g]? = wc.heap[g]? := (hK.at_ g (by omega) (by omega) (by omega) (by omega)).trans (hle.block g hgw.2)
    refine Or.inr ⟨g, off, hg, by have := hK.size; omega, fun j hj => (World.cell?_of_block (w := wc) (w' := wr) hkk).trans (hrow j hj)⟩
theorem TjStart.pack {n : Nat} {l : List EgM} {w wx : World} {O A B W : Nat} (h : ∃ a c, TjStart n l w wx O A B W a c) : ∃ (O' A' B' W' : Nat) (a : Nat → Option Addr) (c : Nat → Nat), Value.pointer (some ⟨W, 0, none⟩) = .pointer (some ⟨W', 0, none⟩) ∧ Box (TjStart n l w wx O' A' B' W' a c) := by
  obtain ⟨a, c, h⟩ := h
  exact ⟨O, A, B, W, a, c, rfl, ⟨h⟩⟩
theorem TjStart.mem {n : Nat} {l : List EgM} {w wx : World} {O A B W : Nat} {a : Nat → Option Addr} {c : Nat → Nat} (h : TjStart n l w wx O A B W a c) : TjMem n w wx O A B W wx.heap.size TjM.start (fun _ => .slice none 0 0) (.slice none 0 0) wx where
  below := h.below
  kept := ⟨Nat.le_refl _, fun _ _ _ _ _ => rfl⟩
  blk := h.blk
  wt := h.wt
  lt := h.lt
  fam := (Fam.nil _ _ _ _ _).like (fun _ _ => rfl) (fun i _ => by unfold TjM.row; split <;> simp [TjM.start]) (fun i _ => by unfold TjM.row; split <;> simp [TjM.start, GrM.ints, intVals])
  tab := World.ownsRow_nil _ _ _ _

theorem TjM.row_at {s : TjSt} {i : Nat} (h : i < s.parts.length) (h2 : i < 100) : TjM.row s i = s.parts[i] := by
  unfold TjM.row
  rw [if_neg (by omega), List.getElem?_eq_getElem h]; rfl
theorem head_mem {l : List Nat} (h : l ≠ []) : l[0]! ∈ l := by
  have := List.length_pos_iff.2 h
  rw [getElem!_pos l 0 this]; exact List.getElem_mem _
/-- The parts, put in order. -/
theorem TjM.sorted_post {m : Nat} {l : List EgM} {w w' : World} {P : List (List Nat)} {I : List Nat} {v : Nat → Value} {pv : Value} (hc : GrM.check (m : Int) l = 0) (hb : Below w.heap.size w w') (hP : TjM.IsParts m l P) (hI : I.Perm (List.range P.length)) (hpw : I.Pairwise fun i j => (P[i]!)[0]! < (P[j]!)[0]!)
    (hT : w'.ownsRow w.heap.size 23 1 pv P.length (I.map v)) (hR : ∀ i (h : i < P.length), w'.ownsRow w.heap.size 3 1 (v i) (P[i]).length (intVals (GrM.ints P[i]))) :
    TjM.PartsPost (m : Int) l w (.returned (.tuple #[pv, .int .i64 0])) w' := by
  have hl : I.length = P.length := by rw [hI.length_eq, List.length_range]
  have hid : (List.range P.length).map (fun i => P[i]!) = P := by
    apply List.ext_getElem
    · simp
    · intro i h1 h2
      simp [h2]
  have hmem : ∀ i (h : i < I.length), I[i] < P.length := fun i h => List.mem_range.1 (hI.mem_iff.1 (List.getElem_mem h))
  refine ⟨hb, Or.inr ⟨hc, I.map (fun i => P[i]!), fun i => v I[i]!, pv, rfl, ?_, ?_, ?_, fun i hi => ?_⟩⟩
  · rw [Int.toNat_natCast]
    refine hP.perm ?_
    have := hI.map (fun i => P[i]!)
    rwa [hid] at this
  · rw [List.pairwise_map]; exact hpw
  · have e : (List.range (I.map (fun i => P[i]!)).length).map (fun i => v I[i]!) = I.map v := by
      apply List.ext_getElem
      · simp
      · intro i h1 h2
        have : i < I.length := by simpa using h2
        simp [this]
    rw [e, List.length_map, hl]; exact hT
  · have hi2 : i < I.length := by simpa using hi
    have h1 := hmem i hi2
    have e : (I.map (fun i => P[i]!))[i] = P[I[i]] := by simp [h1]
    dsimp only
    rw [e, getElem!_pos I i hi2]
    exact hR _ h1
set_option maxRecDepth 20000 in
set_option maxHeartbeats 16000000 in
theorem parts_any (n : Int) (l : List EgM) (ao : Option Addr) (cap : Nat) (w : World) (h : EgsAt w ao l) (hn : l.length ≤ 9000000000000) :
    Calls Try.prog 52 #[.int .i64 n, .slice ao l.length cap] w (TjM.PartsPost n l w) := by
  obtain ⟨i0, hi0, hz0, hz1, hz2⟩ := info_parts Try.infoIntG
  have H := box h
  clear h
  go_enter Try.func52, Try.ntmps52
  go_wp2_with fail
  refine (graphCheck_any n l ao cap w H.out hn).mono ?_
  rintro e w1 ⟨rfl, hb1⟩
  have HB1 := box hb1
  clear hb1
  obtain ⟨c, HC⟩ : ∃ c, Box (GrM.check n l = c) := ⟨_, ⟨rfl⟩⟩
  rw [HC.out]
  cases d0 : (c == 0) with
  | false =>
    have d1 : (c != 0) = true := by simpa using d0
    have HC0 : Box (c ≠ 0) := ⟨by simpa using d0⟩
    go_wp2_with fail
    go_ret2
    exact ⟨HB1.out, Or.inl ⟨by rw [HC.out]; exact HC0.out, by rw [HC.out]; rfl⟩⟩
  | true =>
  obtain rfl : c = 0 := by simpa using d0
  obtain ⟨m, rfl, hm6, hl2, hf⟩ := GrM.check_ok HC.out
  have HFf := box hf
  clear hf
  have hmk : ∀ W : World, (Instr.makeSlice 23 (.int .i64 (m : Int)) (.int .i64 (m : Int))).run Try.prog W = .ok (.slice (some ⟨W.heap.size, 0, none⟩) m m) (W.alloc (.cells (Tab m (fun _ => (Value.int .i64 0))).toArray 3)) :=
    fun W => run_make_tab (P := Try.prog) W 23 3 i0 (.int .i64 0) Try.underlying23 hi0 hz0 hz1 rfl m (by rw [hz2]; omega) (by omega)
  have hs1 := HB1.out.size
  go_upto_region 4 with (fail)
  go_cut [7] (fun s7 wx => ∃ (O A B W : Nat) (a : Nat → Option Addr) (c : Nat → Nat), s7 = .pointer (some ⟨W, 0, none⟩) ∧ Box (TjStart m l w wx O A B W a c))
  case first =>
    go_region_with (first | (go_at_call 61; refine (graphNext_any m l ao cap _ (H.out.below (by first | exact HB1.out.drew | exact HB1.out.drew.alloc hs1 _ | exact (HB1.out.drew.alloc hs1 _).alloc (by simp; omega) _) (Nat.le_refl _)) hl2 hm6 HFf.out).mono ?_; rintro e W2 ⟨hb2, O, v, rfl, hO, hR⟩; have HR := box hR; have HB2 := box hb2; clear hb2 hR hO))
    all_goals (have hs2 := HB2.out.size)
    all_goals (have HBw : Box (Below w.heap.size w W2) := ⟨by
      first
        | exact HB1.out.drew.trans (HB2.out.mono hs1)
        | exact (HB1.out.drew.alloc hs1 _).trans (HB2.out.mono (by simp; omega))
        | exact ((HB1.out.drew.alloc hs1 _).alloc (by simp; omega) _).trans (HB2.out.mono (by simp; omega))⟩)
    all_goals (have hsw := HBw.out.size)
    all_goals (try simp at hs2)
    all_goals (go_wp2_with fail)
    all_goals go_meet
    all_goals first
      | exact TjStart.pack (O := O) (A := W2.heap.size) (B := W2.heap.size + 1) (W := W2.heap.size + 1 + 1) (TjStart.mk' (v := v) (wc := W2)
          (by first | exact ((HBw.out.alloc hsw _).alloc (by simp; omega) _).alloc (by simp; omega) _ | exact (HBw.out.alloc hsw _).alloc (by simp; omega) _ | exact HBw.out.alloc hsw _)
          (by
            first
              | exact ((Blk.new W2 _ _).alloc _).alloc _
              | exact (Blk.new' (by simp) _ _).alloc _
              | exact (Blk.new W2 _ _).alloc _
              | exact ((((Blk.new w1 _ _).drew).after HB2.out).alloc _).alloc _
              | exact (((((Blk.new w1 _ _).alloc _).drew).after HB2.out)).alloc _
              | exact ((((Blk.new' (by simp) _ _).drew).after HB2.out)).alloc _)
          (by
            first
              | exact ((Blk.new W2 _ _).alloc _).alloc _
              | exact (Blk.new' (by simp) _ _).alloc _
              | exact (Blk.new W2 _ _).alloc _
              | exact ((((Blk.new w1 _ _).drew).after HB2.out).alloc _).alloc _
              | exact (((((Blk.new w1 _ _).alloc _).drew).after HB2.out)).alloc _
              | exact ((((Blk.new' (by simp) _ _).drew).after HB2.out)).alloc _)
          HR.out
          (by first | exact (((Below.refl _ W2).alloc (Nat.le_refl _) _).alloc (by simp) _).alloc (by simp; omega) _ | exact ((Below.refl _ W2).alloc (Nat.le_refl _) _).alloc (by simp) _ | exact (Below.refl _ W2).alloc (Nat.le_refl _) _)
          (by first | exact Blk.new' (by simp) _ _ | exact Blk.new _ _ _)
          (by first | (simp; done) | (simp; omega)) (by omega) (by omega))
      | exact TjStart.pack (O := O) (A := W2.heap.size + 1) (B := W2.heap.size) (W := W2.heap.size + 1 + 1) (TjStart.mk' (v := v) (wc := W2)
          (by first | exact ((HBw.out.alloc hsw _).alloc (by simp; omega) _).alloc (by simp; omega) _ | exact (HBw.out.alloc hsw _).alloc (by simp; omega) _ | exact HBw.out.alloc hsw _)
          (by
            first
              | exact ((Blk.new W2 _ _).alloc _).alloc _
              | exact (Blk.new' (by simp) _ _).alloc _
              | exact (Blk.new W2 _ _).alloc _
              | exact ((((Blk.new w1 _ _).drew).after HB2.out).alloc _).alloc _
              | exact (((((Blk.new w1 _ _).alloc _).drew).after HB2.out)).alloc _
              | exact ((((Blk.new' (by simp) _ _).drew).after HB2.out)).alloc _)
          (by
            first
              | exact ((Blk.new W2 _ _).alloc _).alloc _
              | exact (Blk.new' (by simp) _ _).alloc _
              | exact (Blk.new W2 _ _).alloc _
              | exact ((((Blk.new w1 _ _).drew).after HB2.out).alloc _).alloc _
              | exact (((((Blk.new w1 _ _).alloc _).drew).after HB2.out)).alloc _
              | exact ((((Blk.new' (by simp) _ _).drew).after HB2.out)).alloc _)
          HR.out
          (by first | exact (((Below.refl _ W2).alloc (Nat.le_refl _) _).alloc (by simp) _).alloc (by simp; omega) _ | exact ((Below.refl _ W2).alloc (Nat.le_refl _) _).alloc (by simp) _ | exact (Below.refl _ W2).alloc (Nat.le_refl _) _)
          (by first | exact Blk.new' (by simp) _ _ | exact Blk.new _ _ _)
          (by first | (simp; done) | (simp; omega)) (by omega) (by omega))
      | exact TjStart.pack (O := O) (A := w1.heap.size) (B := W2.heap.size) (W := W2.heap.size + 1) (TjStart.mk' (v := v) (wc := W2)
          (by first | exact ((HBw.out.alloc hsw _).alloc (by simp; omega) _).alloc (by simp; omega) _ | exact (HBw.out.alloc hsw _).alloc (by simp; omega) _ | exact HBw.out.alloc hsw _)
          (by
            first
              | exact ((Blk.new W2 _ _).alloc _).alloc _
              | exact (Blk.new' (by simp) _ _).alloc _
              | exact (Blk.new W2 _ _).alloc _
              | exact ((((Blk.new w1 _ _).drew).after HB2.out).alloc _).alloc _
              | exact (((((Blk.new w1 _ _).alloc _).drew).after HB2.out)).alloc _
              | exact ((((Blk.new' (by simp) _ _).drew).after HB2.out)).alloc _)
          (by
            first
              | exact ((Blk.new W2 _ _).alloc _).alloc _
              | exact (Blk.new' (by simp) _ _).alloc _
              | exact (Blk.new W2 _ _).alloc _
              | exact ((((Blk.new w1 _ _).drew).after HB2.out).alloc _).alloc _
              | exact (((((Blk.new w1 _ _).alloc _).drew).after HB2.out)).alloc _
              | exact ((((Blk.new' (by simp) _ _).drew).after HB2.out)).alloc _)
          HR.out
          (by first | exact (((Below.refl _ W2).alloc (Nat.le_refl _) _).alloc (by simp) _).alloc (by simp; omega) _ | exact ((Below.refl _ W2).alloc (Nat.le_refl _) _).alloc (by simp) _ | exact (Below.refl _ W2).alloc (Nat.le_refl _) _)
          (by first | exact Blk.new' (by simp) _ _ | exact Blk.new _ _ _)
          (by first | (simp; done) | (simp; omega)) (by omega) (by omega))
      | exact TjStart.pack (O := O) (A := W2.heap.size) (B := w1.heap.size) (W := W2.heap.size + 1) (TjStart.mk' (v := v) (wc := W2)
          (by first | exact ((HBw.out.alloc hsw _).alloc (by simp; omega) _).alloc (by simp; omega) _ | exact (HBw.out.alloc hsw _).alloc (by simp; omega) _ | exact HBw.out.alloc hsw _)
          (by
            first
              | exact ((Blk.new W2 _ _).alloc _).alloc _
              | exact (Blk.new' (by simp) _ _).alloc _
              | exact (Blk.new W2 _ _).alloc _
              | exact ((((Blk.new w1 _ _).drew).after HB2.out).alloc _).alloc _
              | exact (((((Blk.new w1 _ _).alloc _).drew).after HB2.out)).alloc _
              | exact ((((Blk.new' (by simp) _ _).drew).after HB2.out)).alloc _)
          (by
            first
              | exact ((Blk.new W2 _ _).alloc _).alloc _
              | exact (Blk.new' (by simp) _ _).alloc _
              | exact (Blk.new W2 _ _).alloc _
              | exact ((((Blk.new w1 _ _).drew).after HB2.out).alloc _).alloc _
              | exact (((((Blk.new w1 _ _).alloc _).drew).after HB2.out)).alloc _
              | exact ((((Blk.new' (by simp) _ _).drew).after HB2.out)).alloc _)
          HR.out
          (by first | exact (((Below.refl _ W2).alloc (Nat.le_refl _) _).alloc (by simp) _).alloc (by simp; omega) _ | exact ((Below.refl _ W2).alloc (Nat.le_refl _) _).alloc (by simp) _ | exact (Below.refl _ W2).alloc (Nat.le_refl _) _)
          (by first | exact Blk.new' (by simp) _ _ | exact Blk.new _ _ _)
          (by first | (simp; done) | (simp; omega)) (by omega) (by omega))
      | exact TjStart.pack (O := O) (A := w1.heap.size) (B := w1.heap.size + 1) (W := W2.heap.size) (TjStart.mk' (v := v) (wc := W2)
          (by first | exact ((HBw.out.alloc hsw _).alloc (by simp; omega) _).alloc (by simp; omega) _ | exact (HBw.out.alloc hsw _).alloc (by simp; omega) _ | exact HBw.out.alloc hsw _)
          (by
            first
              | exact ((Blk.new W2 _ _).alloc _).alloc _
              | exact (Blk.new' (by simp) _ _).alloc _
              | exact (Blk.new W2 _ _).alloc _
              | exact ((((Blk.new w1 _ _).drew).after HB2.out).alloc _).alloc _
              | exact (((((Blk.new w1 _ _).alloc _).drew).after HB2.out)).alloc _
              | exact ((((Blk.new' (by simp) _ _).drew).after HB2.out)).alloc _)
          (by
            first
              | exact ((Blk.new W2 _ _).alloc _).alloc _
              | exact (Blk.new' (by simp) _ _).alloc _
              | exact (Blk.new W2 _ _).alloc _
              | exact ((((Blk.new w1 _ _).drew).after HB2.out).alloc _).alloc _
              | exact (((((Blk.new w1 _ _).alloc _).drew).after HB2.out)).alloc _
              | exact ((((Blk.new' (by simp) _ _).drew).after HB2.out)).alloc _)
          HR.out
          (by first | exact (((Below.refl _ W2).alloc (Nat.le_refl _) _).alloc (by simp) _).alloc (by simp; omega) _ | exact ((Below.refl _ W2).alloc (Nat.le_refl _) _).alloc (by simp) _ | exact (Below.refl _ W2).alloc (Nat.le_refl _) _)
          (by first | exact Blk.new' (by simp) _ _ | exact Blk.new _ _ _)
          (by first | (simp; done) | (simp; omega)) (by omega) (by omega))
      | exact TjStart.pack (O := O) (A := w1.heap.size + 1) (B := w1.heap.size) (W := W2.heap.size) (TjStart.mk' (v := v) (wc := W2)
          (by first | exact ((HBw.out.alloc hsw _).alloc (by simp; omega) _).alloc (by simp; omega) _ | exact (HBw.out.alloc hsw _).alloc (by simp; omega) _ | exact HBw.out.alloc hsw _)
          (by
            first
              | exact ((Blk.new W2 _ _).alloc _).alloc _
              | exact (Blk.new' (by simp) _ _).alloc _
              | exact (Blk.new W2 _ _).alloc _
              | exact ((((Blk.new w1 _ _).drew).after HB2.out).alloc _).alloc _
              | exact (((((Blk.new w1 _ _).alloc _).drew).after HB2.out)).alloc _
              | exact ((((Blk.new' (by simp) _ _).drew).after HB2.out)).alloc _)
          (by
            first
              | exact ((Blk.new W2 _ _).alloc _).alloc _
              | exact (Blk.new' (by simp) _ _).alloc _
              | exact (Blk.new W2 _ _).alloc _
              | exact ((((Blk.new w1 _ _).drew).after HB2.out).alloc _).alloc _
              | exact (((((Blk.new w1 _ _).alloc _).drew).after HB2.out)).alloc _
              | exact ((((Blk.new' (by simp) _ _).drew).after HB2.out)).alloc _)
          HR.out
          (by first | exact (((Below.refl _ W2).alloc (Nat.le_refl _) _).alloc (by simp) _).alloc (by simp; omega) _ | exact ((Below.refl _ W2).alloc (Nat.le_refl _) _).alloc (by simp) _ | exact (Below.refl _ W2).alloc (Nat.le_refl _) _)
          (by first | exact Blk.new' (by simp) _ _ | exact Blk.new _ _ _)
          (by first | (simp; done) | (simp; omega)) (by omega) (by omega))
  case rest =>
  obtain ⟨O, A, B, W, a, c, rfl, HSt⟩ := hcut
  have HM0 := box HSt.out.mem
  have HF := box HSt.out.fix_
  clear hmk HFf HB1 hs1 HSt
  obtain ⟨N, HN⟩ : ∃ N, Box (wc.heap.size = N) := ⟨_, ⟨rfl⟩⟩
  rw [HN.out] at HM0 HF
  go_wp2_with fail
  go_loopw [25] (fun t25 wr => ∃ (k : Nat) (s : TjSt) (v : Nat → Value) (pv : Value), k ≤ m ∧ t25 = .int .i64 (k : Int) ∧ Box (TjM.Inv m l [] s ∧ ∀ x, x < k → s.when x ≠ 0) ∧ Box (TjMem m w wc O A B W N s v pv wr)) (fun t25 _ => m - (RowKit.intOf t25).toNat)
  case atStart => exact ⟨0, _, _, _, Nat.zero_le _, rfl, ⟨TjM.Inv.start, fun x hx => by omega⟩, HM0⟩
  case round =>
    obtain ⟨k, s, v, pv, hk, rfl, HI, HM⟩ := hrel
    clear HM0
    by_cases hlt : k < m
    · have c1 := HM.out.blk.cell (i := 1) rfl
      have cw := HM.out.wt.cell hlt
      by_cases hw : s.when k = 0
      · rw [hw] at cw
        go_wp2_with fail
        refine (visit_any HF.out hm6 (TjM.white m s) s v pv wr k [] (Nat.le_refl _) HM.out HI.out.1 hw hlt (fun g hg => by cases hg)).mono ?_
        rintro e w5 ⟨rfl, s', v', pv', hrun, hM'⟩
        have hpost := TjM.run_keeps hrun [] HI.out.1 hw hlt (fun g hg => by cases hg)
        have HI' : Box (TjM.Inv m l [] s' ∧ ∀ x, x < k + 1 → s'.when x ≠ 0) := ⟨hpost.inv, fun x hx => by
          by_cases e : x = k
          · subst e; have := hpost.new; omega
          · rw [(hpost.old x (HI.out.2 x (by omega))).1]; exact HI.out.2 x (by omega)⟩
        have HM' := box hM'
        clear hrun hM' hpost c1 cw hw
        go_wp2_with fail
        go_roundw
        case rel => exact ⟨k + 1, s', v', pv', by omega, by go_num, HI', HM'⟩
        case measure => simp [RowKit.intOf]; omega
      · have q0 : ((s.when k : Int) == 0) = false := by simp; omega
        have q0n : ((s.when k : Int) = 0) = False := by simp; omega
        have HI' : Box (TjM.Inv m l [] s ∧ ∀ x, x < k + 1 → s.when x ≠ 0) := ⟨HI.out.1, fun x hx => by
          by_cases e : x = k
          · subst e; exact hw
          · exact HI.out.2 x (by omega)⟩
        clear hw
        go_wp2_with fail
        go_roundw
        case rel => exact ⟨k + 1, s, v, pv, by omega, by go_num, HI', HM⟩
        case measure => simp [RowKit.intOf]; omega
    · obtain rfl : k = m := by omega
      have HP := box (TjM.all HI.out.1 HI.out.2)
      have hPl := HP.out.len
      have c4 := HM.out.blk.cell (i := 4) rfl
      have hsort := partSort_any s.parts v pv N wr HM.out.tab (fun i hi => by
        refine ⟨(HP.out.scc _ (List.getElem_mem hi)).1, fun x hx => ?_, ?_⟩
        · have := (HP.out.mem x).1 (List.mem_flatten.2 ⟨_, List.getElem_mem hi, hx⟩)
          omega
        · have := HM.out.fam.own i (by omega)
          rw [TjM.row_at hi (by omega)] at this
          exact this) (fun i j hi hj he => by
        refine TjM.flat_one HP.out.nd hi hj (x := s.parts[i][0]!) (head_mem (HP.out.scc _ (List.getElem_mem hi)).1) ?_
        rw [he]; exact head_mem (HP.out.scc _ (List.getElem_mem hj)).1) (by omega)
      have HSo := box hsort
      clear hsort hlt hk HI
      go_wp2_with fail
      refine HSo.out.mono ?_
      rintro e w5 ⟨rfl, I, hI, hpw, hown, hg⟩
      have hrow : ∀ q, pv.ownBlock = some q → N ≤ q := fun q hq => (HM.out.tab.lt q hq).1
      have bW := Blk.grown HM.out.blk hg (fun e => by have := hrow W e; have := HF.out.lt.2.2; omega)
      have d4 := bW.cell (i := 4) rfl
      have hbw : Below w.heap.size w w5 := HM.out.below.grown hg (by have := HM.out.below.size; exact this) (fun q hq => Nat.le_trans HF.out.le.2.2.2 (hrow q hq))
      have HRes := box (TjM.sorted_post HC.out hbw HP.out hI hpw (ownsRow_mono hown HF.out.le.2.2.2) (fun i hi => by
        have h1 := HM.out.fam.own i (by omega)
        rw [TjM.row_at hi (by omega)] at h1
        exact ownsRow_mono (tj_far HM.out.tab hg h1 (by decide)) HF.out.le.2.2.2))
      clear hI hpw hown hg hrow bW hbw HSo c4
      go_wp2_with fail
      go_ret2
      exact HRes.out
end
section
open Go.RowKit Go.Lib

/-- Two rising lists with the same members are one. -/
theorem strict_ext : ∀ (l m : List Nat), l.Pairwise (· < ·) → m.Pairwise (· < ·) → (∀ x, x ∈ l ↔ x ∈ m) → l = m
  | [], [], _, _, _ => rfl
  | [], b :: m, _, _, h => by have := (h b).2 List.mem_cons_self; cases this
  | a :: l, [], _, _, h => by have := (h a).1 List.mem_cons_self; cases this
  | a :: l, b :: m, h1, h2, h => by
    rw [List.pairwise_cons] at h1 h2
    have e : a = b := by
      have ha := (h a).1 List.mem_cons_self
      have hb := (h b).2 List.mem_cons_self
      rcases List.mem_cons.1 ha with e | ha
      · exact e
      · rcases List.mem_cons.1 hb with e | hb
        · exact e.symm
        · have := h2.1 a ha; have := h1.1 b hb; omega
    subst e
    rw [strict_ext l m h1.2 h2.2 (fun x => ?_)]
    constructor
    · intro hx
      rcases List.mem_cons.1 ((h x).1 (List.mem_cons_of_mem _ hx)) with e | h3
      · have := h1.1 x hx; omega
      · exact h3
    · intro hx
      rcases List.mem_cons.1 ((h x).2 (List.mem_cons_of_mem _ hx)) with e | h3
      · have := h2.1 x hx; omega
      · exact h3
namespace TjM
def ex : List EgM := [⟨2, 0⟩, ⟨0, 2⟩]
theorem ex_E (x y : Nat) : GrM.E ex x y = true ↔ (x = 2 ∧ y = 0) ∨ (x = 0 ∧ y = 2) := by
  rw [GrM.E_iff]
  unfold ex
  simp
  omega
theorem ex_R (x y : Nat) : R 3 ex x y ↔ x = y ∨ ((x = 0 ∨ x = 2) ∧ (y = 0 ∨ y = 2)) := by
  constructor
  · intro h
    have := R.closed (n := 3) (l := ex) (A := fun y => x = y ∨ ((x = 0 ∨ x = 2) ∧ (y = 0 ∨ y = 2))) (fun a ha b _ he => by
      rw [ex_E] at he; omega) (Or.inl rfl) h
    exact this
  · rintro (rfl | ⟨h1, h2⟩)
    · exact R.refl _
    · by_cases e : x = y
      · exact Or.inl e
      · exact R.edge (by omega) (by rw [ex_E]; omega)
theorem ex_parts {P : List (List Nat)} (h : IsParts 3 ex P) (hp : P.Pairwise fun p q => p[0]! < q[0]!) : P = [[0, 2], [1]] := by
  have hA : ∀ p ∈ P, p = [0, 2] ∨ p = [1] := fun p hpp => by
    obtain ⟨h1, h2, h3⟩ := h.scc p hpp
    have hm := head_mem h1
    have h0 : p[0]! < 3 := (h.mem _).1 (List.mem_flatten.2 ⟨p, hpp, hm⟩)
    have h4 := h3 _ hm
    have h5 : ∀ x ∈ p, x < 3 := fun x hx => (h.mem _).1 (List.mem_flatten.2 ⟨p, hpp, hx⟩)
    by_cases e : p[0]! = 1
    · right
      refine strict_ext _ _ h2 (by simp) (fun x => ?_)
      rw [List.mem_singleton]
      constructor
      · intro hx
        have := (h4 x (h5 x hx)).1 hx
        rw [ex_R, ex_R] at this; omega
      · intro hx
        exact (h4 x (by omega)).2 (by rw [ex_R, ex_R]; omega)
    · left
      refine strict_ext _ _ h2 (by simp) (fun x => ?_)
      simp only [List.mem_cons, List.not_mem_nil, or_false]
      constructor
      · intro hx
        have h6 := (h4 x (h5 x hx)).1 hx
        rw [ex_R, ex_R] at h6; omega
      · intro hx
        exact (h4 x (by omega)).2 (by rw [ex_R, ex_R]; omega)
  have h0 : [0, 2] ∈ P := by
    obtain ⟨p, hp1, hp2⟩ := List.mem_flatten.1 ((h.mem 0).2 (by omega))
    rcases hA p hp1 with rfl | rfl
    · exact hp1
    · simp at hp2
  have h1 : [1] ∈ P := by
    obtain ⟨p, hp1, hp2⟩ := List.mem_flatten.1 ((h.mem 1).2 (by omega))
    rcases hA p hp1 with rfl | rfl
    · simp at hp2
    · exact hp1
  match P, hA, h0, h1, hp with
  | [], _, h0, _, _ => cases h0
  | [p], hA, h0, h1, _ => rw [List.mem_singleton] at h0 h1; rw [← h0] at h1; cases h1
  | p :: q :: r, hA, h0, h1, hp =>
    rw [List.pairwise_cons, List.pairwise_cons] at hp
    have hpq := hp.1 q List.mem_cons_self
    have hp' := hA p List.mem_cons_self
    have hq' := hA q (List.mem_cons_of_mem _ List.mem_cons_self)
    have hr : r = [] := by
      cases r with
      | nil => rfl
      | cons s r =>
        have h6 := hp.2.1 s List.mem_cons_self
        have hs' := hA s (List.mem_cons_of_mem _ (List.mem_cons_of_mem _ List.mem_cons_self))
        rcases hp' with rfl | rfl <;> rcases hq' with rfl | rfl <;> rcases hs' with rfl | rfl <;> simp at hpq h6
    subst hr
    rcases hp' with rfl | rfl <;> rcases hq' with rfl | rfl <;> simp at hpq ⊢
/-- Which part each node is in, of the first ones. -/
structure Told (P : List (List Nat)) (i j : Nat) (g : Nat → Int) : Prop where
  old : ∀ q (h : q < P.length), q < i → ∀ x ∈ P[q], g x = (q : Int)
  now : ∀ (h : i < P.length), ∀ x ∈ P[i].take j, g x = (i : Int)
theorem Told.start (P : List (List Nat)) (g : Nat → Int) : Told P 0 0 g := ⟨fun q _ h => by omega, fun _ x hx => by simp at hx⟩
theorem Told.put {P : List (List Nat)} {i j : Nat} {g : Nat → Int} (h : Told P i j g) (hn : P.flatten.Nodup) (hi : i < P.length) (hj : j < P[i].length) : Told P i (j + 1) (upd g P[i][j] (i : Int)) := by
  refine ⟨fun q hq hqi x hx => ?_, fun _ x hx => ?_⟩
  · rw [upd_other _ _ (fun e => ?_)]
    · exact h.old q hq hqi x hx
    · have := flat_one hn hq hi (x := x) hx (by rw [e]; exact List.getElem_mem _)
      omega
  · unfold upd
    split
    · rfl
    · rw [List.take_succ_eq_append_getElem hj] at hx
      rcases List.mem_append.1 hx with hx | hx
      · exact h.now hi x hx
      · rw [List.mem_singleton] at hx; contradiction
theorem Told.next {P : List (List Nat)} {i j : Nat} {g : Nat → Int} (h : Told P i j g) (hi : i < P.length) (hj : j = P[i].length) : Told P (i + 1) 0 g := by
  refine ⟨fun q hq hqi x hx => ?_, fun _ x hx => by simp at hx⟩
  by_cases e : q = i
  · subst e
    exact h.now hq x (by rw [hj, List.take_length]; exact hx)
  · exact h.old q hq (by omega) x hx
theorem Told.all {n : Nat} {l : List EgM} {P : List (List Nat)} {g : Nat → Int} (h : Told P P.length 0 g) (hP : IsParts n l P) {a b : Nat} (ha : a < n) (hb : b < n) : (R n l a b ∧ R n l b a) ↔ g a = g b := by
  obtain ⟨p, hp, hap⟩ := List.mem_flatten.1 ((hP.mem a).2 ha)
  obtain ⟨q, hq, hbq⟩ := List.mem_flatten.1 ((hP.mem b).2 hb)
  obtain ⟨i, hi, rfl⟩ := List.mem_iff_getElem.1 hp
  obtain ⟨j, hj, rfl⟩ := List.mem_iff_getElem.1 hq
  rw [h.old i hi hi a hap, h.old j hj hj b hbq, ← (hP.scc _ hp).2.2 a hap b hb]
  constructor
  · intro hbi
    rw [flat_one hP.nd hi hj hbi hbq]
  · intro e
    have e2 : i = j := by omega
    subst e2; exact hbq
theorem IsParts.count {n : Nat} {l : List EgM} {P : List (List Nat)} (hP : IsParts n l P) : P.flatten.length = n := by
  have h1 := List.Nodup.length_le_of_subset hP.nd (l₂ := List.range n) (fun x hx => List.mem_range.2 ((hP.mem x).1 hx))
  have h2 := List.Nodup.length_le_of_subset List.nodup_range (l₁ := List.range n) (l₂ := P.flatten) (fun x hx => (hP.mem x).2 (List.mem_range.1 hx))
  rw [List.length_range] at h1 h2; omega
theorem flat_take (P : List (List Nat)) {i : Nat} (hi : i < P.length) : (P.take (i + 1)).flatten.length = (P.take i).flatten.length + P[i].length := by
  rw [List.take_succ_eq_append_getElem hi, List.flatten_append, List.length_append]; simp
theorem R_iff_mutual {n : Nat} {l : List EgM} {a b : Nat} : (R n l a b ∧ R n l b a) ↔ a = b ∨ (GrM.Path n l a b ∧ GrM.Path n l b a) := by
  constructor
  · rintro ⟨h1 | h1, h2 | h2⟩
    · exact Or.inl h1
    · exact Or.inl h1
    · exact Or.inl h2.symm
    · exact Or.inr ⟨h1, h2⟩
  · rintro (rfl | ⟨h1, h2⟩)
    · exact ⟨R.refl _, R.refl _⟩
    · exact ⟨Or.inr h1, Or.inr h2⟩
end TjM
end
end Go.Proofs.Ytnnkejolfhhmlaa
