/- BLOCKS KNOWN WHOLE, tables in them, families of rows that the call owns. -/
import Derived.Test.YtgkclgmekbgjmaaMem
import Derived.Maps.AppendAt
namespace Go.Proofs.Ytgkclgmekbgjmaa
open Go.RowKit Go.Lib

theorem snoc_ind {α : Type} {p : List α → Prop} (nil : p []) (snoc : ∀ l a, p l → p (l ++ [a])) (l : List α) : p l := by
  have key : ∀ n (l : List α), l.length = n → p l := by
    intro n
    induction n with
    | zero => intro l h; rw [List.eq_nil_of_length_eq_zero h]; exact nil
    | succ n ih =>
      intro l h
      rcases List.eq_nil_or_concat l with rfl | ⟨l', a, rfl⟩
      · exact nil
      · rw [List.concat_eq_append] at h ⊢
        exact snoc l' a (ih l' (by simpa using h))
  exact key _ l rfl

/-- The world under a new name, with what is known of it. -/
theorem name_world {P : Program} {c : Code} {Q : Exit → Act → World → Prop} {a : Act} {w : World} (p : World → Prop) (h : p w) (k : ∀ W, p W → Code.wp P c Q a W) : Code.wp P c Q a w := k w h

/-- A statement that draws its order: all orders come to one frame, but for two numbers. -/
def MetF (F : Nat → Nat → Act) (R : World → Prop) : Exit → Act → World → Prop
  | .normal, a, w => ∃ g k, a = F g k ∧ R w
  | _, _, _ => False
theorem wp_meetF {P : Program} {c : Code} {Q : Exit → Act → World → Prop} {a : Act} {w : World} (R : World → Prop)
    (h : ∃ F : Nat → Nat → Act, Code.wp P c (MetF F R) a w ∧ ∀ g k w', R w' → Q .normal (F g k) w') : Code.wp P c Q a w := by
  obtain ⟨F, h1, h2⟩ := h
  refine wp_mono h1 ?_
  intro e a' w' h
  cases e <;> first | exact h.elim | (obtain ⟨g, k, rfl, hR⟩ := h; exact h2 g k w' hR)

/-- A function turned at one place. -/
def upd {α : Type} (f : Nat → α) (t : Nat) (v : α) : Nat → α := fun i => if i = t then v else f i
theorem upd_same {α : Type} (f : Nat → α) (t : Nat) (v : α) : upd f t v t = v := by simp [upd]
theorem upd_other {α : Type} (f : Nat → α) {t i : Nat} (v : α) (h : i ≠ t) : upd f t v i = f i := by simp [upd, h]
def Tab {α : Type} (n : Nat) (f : Nat → α) : List α := (List.range n).map f
theorem Tab_len {α : Type} (n : Nat) (f : Nat → α) : (Tab n f).length = n := by simp [Tab]
theorem Tab_get {α : Type} {n i : Nat} (f : Nat → α) (h : i < n) : (Tab n f)[i]? = some (f i) := by simp [Tab, h]
theorem Tab_set {α : Type} {n i : Nat} (f : Nat → α) (v : α) : (Tab n f).set i v = Tab n (upd f i v) := by
  apply List.ext_getElem (by simp [Tab])
  intro j h1 h2
  simp only [Tab, List.length_set, List.length_map, List.length_range] at h1
  rw [List.getElem_set]
  simp only [Tab, List.getElem_map, List.getElem_range, upd]
  by_cases e : i = j
  · simp [e]
  · rw [if_neg e, if_neg (fun h => e h.symm)]
theorem Tab_congr {α : Type} {n : Nat} {f g : Nat → α} (h : ∀ i, i < n → f i = g i) : Tab n f = Tab n g := by
  unfold Tab
  exact List.map_congr_left (fun i hi => h i (by simpa using hi))

/-- Block b holds just the cells C, none of them frozen. -/
def Blk (w : World) (b t : Nat) (C : List Value) : Prop := w.heap[b]? = some (.cells C.toArray t (0, 0))
theorem Blk.lt {w : World} {b t : Nat} {C : List Value} (h : Blk w b t C) : b < w.heap.size := lt_of_block h
theorem Blk.cell {w : World} {b t : Nat} {C : List Value} (h : Blk w b t C) {i : Nat} {v : Value} (hv : C[i]? = some v) : w.cell? ⟨b, i, none⟩ = some v := by
  unfold Blk at h
  simp only [World.cell?, h]
  simpa using hv
theorem Blk.frozen {w : World} {b t : Nat} {C : List Value} (h : Blk w b t C) (i : Nat) : w.frozen? ⟨b, i, none⟩ = false := by
  unfold Blk at h
  simp [World.frozen?, h]
theorem Blk.new (w : World) (C : List Value) (t : Nat) : Blk (w.alloc (.cells C.toArray t)) w.heap.size t C := heap_alloc_new w _
theorem Blk.new' {w : World} {n : Nat} (h : w.heap.size = n) (C : List Value) (t : Nat) : Blk (w.alloc (.cells C.toArray t)) n t C := h ▸ Blk.new w C t
theorem Blk.alloc {w : World} {b t : Nat} {C : List Value} (h : Blk w b t C) (o : Obj) : Blk (w.alloc o) b t C := (Below.heap_alloc _ _ _ h.lt).trans h
theorem Blk.drew {w : World} {b t : Nat} {C : List Value} (h : Blk w b t C) : Blk w.drew b t C := h
theorem Blk.drewN {w : World} {b t : Nat} {C : List Value} (h : Blk w b t C) (n : Nat) : Blk (w.drewN n) b t C := h
theorem Blk.below {w w' : World} {b t N : Nat} {C : List Value} (h : Blk w b t C) (hb : Below N w w') (hN : b < N) : Blk w' b t C := (hb.block b hN).trans h
theorem Blk.after {w w' : World} {b t : Nat} {C : List Value} (h : Blk w b t C) (hb : Below w.heap.size w w') : Blk w' b t C := h.below hb h.lt
theorem Blk.grown {w w' : World} {b t : Nat} {C : List Value} {row : Option Nat} (h : Blk w b t C) (hg : w.grownBy w' row) (hr : row ≠ some b) : Blk w' b t C := (hg.block b h.lt (Ne.symm hr)).trans h
theorem Blk.other {w : World} {b t : Nat} {C : List Value} (h : Blk w b t C) {p : Addr} (hp : b ≠ p.block) (v : Value) : Blk (w.setCell p v) b t C := (Below.heap_setCell _ _ _ _ hp).trans h
theorem Blk.set {w : World} {b t : Nat} {C : List Value} (h : Blk w b t C) (i : Nat) (v : Value) : Blk (w.setCell ⟨b, i, none⟩ v) b t (C.set i v) := by
  have := heap_setCell_same w b i C.toArray t v h
  unfold Blk
  rw [this]; simp
theorem Blk.ne {w : World} {b b' t t' : Nat} {C C' : List Value} (h : Blk w b t C) (h' : Blk w b' t' C') (ht : t ≠ t') : b ≠ b' := by
  rintro rfl
  unfold Blk at h h'
  rw [h] at h'
  simp at h'
  exact ht h'.2
theorem Blk.ne_own {w : World} {b t e base size n : Nat} {C xs : List Value} {v : Value} (h : Blk w b t C) (ho : w.ownsRow base e size v n xs) (ht : t ≠ e) : v.ownBlock ≠ some b := by
  intro hb
  rcases ho.2 with ⟨rfl, _⟩ | ⟨g, cap, cur, rfl, _, hg, _⟩
  · simp [Value.ownBlock] at hb
  · simp [Value.ownBlock] at hb
    subst hb
    unfold Blk at h
    rw [h] at hg
    simp at hg
    exact ht hg.2
theorem Blk.tabCell {w : World} {b t n : Nat} {f : Nat → Value} (h : Blk w b t (Tab n f)) {i : Nat} (hi : i < n) : w.cell? ⟨b, i, none⟩ = some (f i) := h.cell (Tab_get f hi)
theorem Blk.tabSet {w : World} {b t n : Nat} {f : Nat → Value} (h : Blk w b t (Tab n f)) (i : Nat) (v : Value) : Blk (w.setCell ⟨b, i, none⟩ v) b t (Tab n (upd f i v)) := by
  have := h.set i v
  rwa [Tab_set] at this

/-- Rows v 0 .. v (N-1), each of the call's own, no two in one block. -/
structure Fam (w : World) (base N e size : Nat) (v : Nat → Value) (m : Nat → Nat) (xs : Nat → List Value) : Prop where
  own : ∀ i, i < N → w.ownsRow base e size (v i) (m i) (xs i)
  apart : ∀ i j, i < N → j < N → i ≠ j → ∀ g, (v i).ownBlock = some g → (v j).ownBlock ≠ some g
theorem Fam.nil (w : World) (base N e size : Nat) : Fam w base N e size (fun _ => .slice none 0 0) (fun _ => 0) (fun _ => []) :=
  ⟨fun _ _ => World.ownsRow_nil _ _ _ _, fun _ _ _ _ _ g h => by simp [Value.ownBlock] at h⟩
theorem Fam.kept {w w' : World} {base N e size : Nat} {v : Nat → Value} {m : Nat → Nat} {xs : Nat → List Value} (h : Fam w base N e size v m xs) {row : Option Nat} (hg : w.grownBy w' row) (hr : ∀ i, i < N → (v i).ownBlock = none ∨ (v i).ownBlock ≠ row) : Fam w' base N e size v m xs :=
  ⟨fun i hi => (h.own i hi).kept hg (hr i hi), h.apart⟩
theorem Fam.alloc {w : World} {base N e size : Nat} {v : Nat → Value} {m : Nat → Nat} {xs : Nat → List Value} (h : Fam w base N e size v m xs) (o : Obj) : Fam (w.alloc o) base N e size v m xs :=
  ⟨fun i hi => (h.own i hi).alloc o, h.apart⟩
theorem Fam.drew {w : World} {base N e size : Nat} {v : Nat → Value} {m : Nat → Nat} {xs : Nat → List Value} (h : Fam w base N e size v m xs) : Fam w.drew base N e size v m xs :=
  ⟨fun i hi => (h.own i hi).drew, h.apart⟩
theorem Fam.after {w w' : World} {base N e size : Nat} {v : Nat → Value} {m : Nat → Nat} {xs : Nat → List Value} (h : Fam w base N e size v m xs) (hb : Below w.heap.size w w') : Fam w' base N e size v m xs :=
  ⟨fun i hi => ownsRow_below (h.own i hi) hb, h.apart⟩
theorem Fam.setCell {w : World} {base N e size b t : Nat} {v : Nat → Value} {m : Nat → Nat} {xs : Nat → List Value} {C : List Value} (h : Fam w base N e size v m xs) (hb : Blk w b t C) (ht : t ≠ e) (o : Nat) (u : Value) : Fam (w.setCell ⟨b, o, none⟩ u) base N e size v m xs :=
  ⟨fun i hi => ownsRow_setCell_other (h.own i hi) (hb.ne_own (h.own i hi) ht) u, h.apart⟩
/-- Row k has grown. -/
theorem Fam.append {w w' : World} {base N e size k n' : Nat} {v : Nat → Value} {m : Nat → Nat} {xs : Nat → List Value} {v' : Value} {ys : List Value} (h : Fam w base N e size v m xs) (hk : k < N)
    (ho : w'.ownsRow base e size v' n' ys) (hg : w.grownBy w' (v k).ownBlock) (hat : v'.ownBlock = (v k).ownBlock ∨ v'.ownBlock = some w.heap.size) : Fam w' base N e size (upd v k v') (upd m k n') (upd xs k ys) := by
  have hlt : ∀ i, i < N → ∀ g, (v i).ownBlock = some g → g < w.heap.size := fun i hi g hg => ((h.own i hi).lt g hg).2
  refine ⟨fun i hi => ?_, fun i j hi hj hij g h1 => ?_⟩
  · by_cases e : i = k
    · subst e; rw [upd_same, upd_same, upd_same]; exact ho
    · rw [upd_other _ _ e, upd_other _ _ e, upd_other _ _ e]
      refine (h.own i hi).kept hg ?_
      cases hv : (v i).ownBlock with
      | none => exact Or.inl rfl
      | some g => exact Or.inr (fun h2 => h.apart i k hi hk e g hv h2.symm)
  · by_cases ei : i = k
    · subst ei
      rw [upd_same] at h1
      rw [upd_other _ _ (Ne.symm hij)]
      rcases hat with h2 | h2
      · exact h.apart i j hi hj hij g (by rw [← h2, h1])
      · rw [h2] at h1
        intro h3
        have := hlt j hj g h3
        simp at h1; omega
    · rw [upd_other _ _ ei] at h1
      by_cases ej : j = k
      · subst ej
        rw [upd_same]
        rcases hat with h2 | h2
        · rw [h2]; exact h.apart i j hi hj hij g h1
        · rw [h2]
          have := hlt i hi g h1
          intro h3; simp at h3; omega
      · rw [upd_other _ _ ej]
        exact h.apart i j hi hj hij g h1
end Go.Proofs.Ytgkclgmekbgjmaa
