/- BLOCKS KNOWN WHOLE, tables in them, families of rows that the call owns. -/
import Derived.Test.YtpeaefeoogcepaaDoorRows
import Derived.WalkKit
import Derived.WalkSpells
import Derived.WalkLawsBesides
import Derived.Lib.Hide
import Derived.Laws.AppendOwnNone
import Derived.Laws.CopyOwn
import Derived.Deep.QuietTactic
import Derived.BigQuiet
import Derived.Deep.RegionWith
import Derived.Deep.RegionHeld3
import Derived.Deep.RegionLaw
import Derived.StillTailTactics
import Derived.Deep.DeepCutAuto
import Derived.Handy
import Derived.Maps.AppendAt
namespace Go.Proofs.YtpeaefeoogcepaaDoor
section
open Go.RowKit Go.Lib

/-- A fact that neither the walk's simp nor its search for contradictions looks into. -/
structure Box (p : Prop) : Prop where
  out : p
theorem box {p : Prop} (h : p) : Box p := ⟨h⟩

/-- One call behind another: neither has turned what was there. -/
theorem below_tr {w w1 w2 : World} (h : Below w.heap.size w w1) (k : Below w1.heap.size w1 w2) : Below w.heap.size w w2 := h.trans (k.mono h.size)

/-- bytes as cells -/
def byteVals (l : List UInt8) : List Value := l.map (fun c => Value.int .u8 (c.toNat : Int))
theorem byteVals_length (l : List UInt8) : (byteVals l).length = l.length := by simp [byteVals]
theorem byteVals_append (l m : List UInt8) : byteVals (l ++ m) = byteVals l ++ byteVals m := by simp [byteVals]
theorem byteVals_one (c : UInt8) : byteVals [c] = [.int .u8 (c.toNat : Int)] := rfl
theorem byteVals_oneCell (l : List UInt8) : ∀ u ∈ byteVals l, u.oneCell' = true := by
  intro u hu
  obtain ⟨_, _, rfl⟩ := List.mem_map.1 hu
  rfl

theorem foldl_push (l : List UInt8) : ∀ s : ByteArray, (l.map (fun c => (c.toNat : Int))).foldl (fun (r : ByteArray) (n : Int) => r.push (UInt8.ofNat n.toNat)) s = ⟨s.data ++ l.toArray⟩ := by
  induction l with
  | nil => intro s; simp
  | cons c l ih =>
    intro s
    simp only [List.map_cons, List.foldl_cons]
    rw [ih]
    simp [ByteArray.push]

/-- string(b), b a row of bytes that the call owns. -/
theorem run_string_of_own {P : Program} {w : World} {base e : Nat} {v : Value} {l : List UInt8} (src dst : TypeId) (h : w.ownsRow base e 1 v l.length (byteVals l))
    (hs : P.underlying src = some (.slice e)) (he : P.underlying e = some (.int .u8)) (hd : P.underlying dst = some .string) :
    (convert src dst v).run P w = .ok (.string ⟨l.toArray⟩) w := by
  rcases h.2 with ⟨rfl, hl⟩ | ⟨g, cap, cur, rfl, hb, hg, hle, hm, hsz, htk⟩
  · have : l = [] := List.eq_nil_of_length_eq_zero hl
    subst this
    rw [run_convert_bytes_string w src dst e none 0 0 hs he hd]
    rfl
  · rw [run_convert_bytes_string w src dst e _ _ _ hs he hd]
    have hc : (loadCells ⟨g, 0, none⟩ l.length).run P w = .ok ((l.map (fun c => (c.toNat : Int))).map (Value.int .u8)).toArray w := by
      have hcells := h.cells (g := g) rfl
      have := run_loadCells_list (P := P) (w := w) ⟨g, 0, none⟩ (byteVals l) hcells
      rw [byteVals_length] at this
      rw [this]
      simp [byteVals]
    rw [run_bytesToString w _ _ _ _ hc, foldl_push]
    have e : ByteArray.empty.data ++ l.toArray = l.toArray := by
      have : ByteArray.empty.data = #[] := rfl
      rw [this, Array.empty_append]
    rw [e]

/-- The bytes l stand at the head of block g, and may be written. -/
def BytesAt (W : World) (g : Nat) (l : List UInt8) : Prop :=
  ∀ j (hj : j < l.length), W.cell? ⟨g, j, none⟩ = some (.int .u8 (l[j].toNat : Int)) ∧ W.frozen? ⟨g, j, none⟩ = false
theorem bytesAt_below {W W' : World} {g : Nat} {l : List UInt8} (h : BytesAt W g l) (hb : Below W.heap.size W W') (hg : g < W.heap.size) : BytesAt W' g l :=
  fun j hj => ⟨(hb.cell (p := ⟨g, j, none⟩) hg).trans (h j hj).1, (hb.frozen (p := ⟨g, j, none⟩) hg).trans (h j hj).2⟩
theorem bytesAt_conv {P : Program} {W : World} {g cap : Nat} {l : List UInt8} (h : BytesAt W g l) (src dst e : TypeId) (hs : P.underlying src = some (.slice e)) (he : P.underlying e = some (.int .u8)) (hd : P.underlying dst = some .string) :
    (convert src dst (.slice (some ⟨g, 0, none⟩) l.length cap)).run P W = .ok (.string ⟨l.toArray⟩) W :=
  run_convert_bytes_back W src dst e ⟨g, 0, none⟩ cap l hs he hd (fun j hj => by rw [Addr.add_lit, Nat.zero_add]; exact (h j hj).1)
theorem bytesAt_new (w : World) (s : ByteArray) (cap : Nat) (e : TypeId) :
    BytesAt (w.alloc (.cells (bytesRow s cap) e ((bytesRow s cap).size, (bytesRow s cap).size + 1))) w.heap.size s.data.toList := by
  intro j hj
  have hh : (w.alloc (.cells (bytesRow s cap) e ((bytesRow s cap).size, (bytesRow s cap).size + 1))).heap[w.heap.size]? = some (.cells (bytesRow s cap) e ((bytesRow s cap).size, (bytesRow s cap).size + 1)) := heap_alloc_new w _
  have hj' : j < s.data.size := by simpa using hj
  have hss : s.data.size = s.size := rfl
  have hsz : j < (bytesRow s cap).size := by simp only [bytesRow, Array.size_append, Array.size_map, Array.size_replicate]; omega
  refine ⟨?_, ?_⟩
  · rw [World.cell?_alloc_mark]
    unfold bytesRow
    rw [Array.getElem?_append_left (by simpa using hj'), Array.getElem?_map, Array.getElem?_eq_getElem hj']
    simp
  · simp only [World.frozen?, hh]
    simp
    omega
theorem bytesAt_set {W : World} {g p : Nat} {l : List UInt8} (h : BytesAt W g l) (a : UInt8) (hp : p < l.length) : BytesAt (W.setCell ⟨g, p, none⟩ (.int .u8 (a.toNat : Int))) g (l.set p a) := by
  intro j hj
  have hj' : j < l.length := by simpa using hj
  obtain ⟨c, f⟩ := h j hj'
  obtain ⟨cp, fp⟩ := h p hp
  refine ⟨?_, ?_⟩
  · by_cases e : p = j
    · subst e
      rw [World.cell?_setCell_same (u := .int .u8 (l[p].toNat : Int)) (h := cp)]
      simp
    · rw [World.cell?_setCell_other (h := by intro h; injection h with _ h2; exact e h2), c, List.getElem_set_ne e]
  · simpa using f

theorem ownsRow_shape {w : World} {B e size n : Nat} {v : Value} {xs : List Value} (h : w.ownsRow B e size v n xs) (hv : ¬ v = .slice none 0 0) :
    ∃ g cap, v = .slice (some ⟨g, 0, none⟩) n cap ∧ B ≤ g ∧ g < w.heap.size ∧ n ≤ cap := by
  rcases h.2 with ⟨h1, _⟩ | ⟨g, cap, cur, h1, h2, h3, h4, _⟩
  · exact absurd h1 hv
  · exact ⟨g, cap, h1, h2, (Array.getElem?_eq_some_iff.1 h3).1, h4⟩

theorem ownsRow_mono {w : World} {B B' e size n : Nat} {v : Value} {xs : List Value} (h : w.ownsRow B e size v n xs) (hB : B' ≤ B) : w.ownsRow B' e size v n xs := by
  refine ⟨h.1, ?_⟩
  rcases h.2 with h1 | ⟨g, cap, cur, h1, h2, h3⟩
  · exact Or.inl h1
  · exact Or.inr ⟨g, cap, cur, h1, Nat.le_trans hB h2, h3⟩

/-- What is owned stays so behind a call that turns nothing that was there. -/
theorem ownsRow_below {w w' : World} {B e size n : Nat} {v : Value} {xs : List Value} (h : w.ownsRow B e size v n xs) (hb : Below w.heap.size w w') : w'.ownsRow B e size v n xs := by
  refine ⟨h.1, ?_⟩
  rcases h.2 with h1 | ⟨g, cap, cur, h1, h2, h3, h4⟩
  · exact Or.inl h1
  · exact Or.inr ⟨g, cap, cur, h1, h2, (hb.block g (Array.getElem?_eq_some_iff.1 h3).1).trans h3, h4⟩

/-- The cells of a block that was just laid. -/
theorem cells_new (w : World) (xs : List Value) (e : TypeId) : ∀ j u, xs[j]? = some u → (w.alloc (.cells xs.toArray e)).cell? ((⟨w.heap.size, 0, none⟩ : Addr).add j) = some u := by
  intro j u hu
  rw [Addr.add_lit, Nat.zero_add, cell_of_row _ _ _ xs.toArray e (0, 0) (heap_alloc_new w _)]
  simpa using hu
end
section
open Go.RowKit Go.Lib

theorem snoc_ind {α : Type} {p : List α → Prop} (nil : p []) (snoc : ∀ l a, p l → p (l ++ [a])) (l : List α) : p l := by
  have key : ∀ n (l : List α), l.length = n → p l := by
    intro n
    induction n with
    | zero => intro l h; rw [List.eq_nil_of_length_eq_zero h]; exact nil
    | succ n ih =>
      intro l h
      rcases List.eq_nil_or_concat l with rfl | ⟨l', a, rfl⟩
      · exact nil
      · rw [List.concat_eq_append] at h ⊢
        exact snoc l' a (ih l' (by simpa using h))
  exact key _ l rfl

/-- The world under a new name, with what is known of it. -/
theorem name_world {P : Program} {c : Code} {Q : Exit → Act → World → Prop} {a : Act} {w : World} (p : World → Prop) (h : p w) (k : ∀ W, p W → Code.wp P c Q a W) : Code.wp P c Q a w := k w h

/-- A statement that draws its order: all orders come to one frame, but for two numbers. -/
def MetF (F : Nat → Nat → Act) (R : World → Prop) : Exit → Act → World → Prop
  | .normal, a, w => ∃ g k, a = F g k ∧ R w
  | _, _, _ => False
theorem wp_meetF {P : Program} {c : Code} {Q : Exit → Act → World → Prop} {a : Act} {w : World} (R : World → Prop)
    (h : ∃ F : Nat → Nat → Act, Code.wp P c (MetF F R) a w ∧ ∀ g k w', R w' → Q .normal (F g k) w') : Code.wp P c Q a w := by
  obtain ⟨F, h1, h2⟩ := h
  refine wp_mono h1 ?_
  intro e a' w' h
  cases e <;> first | exact h.elim | (obtain ⟨g, k, rfl, hR⟩ := h; exact h2 g k w' hR)

/-- A function turned at one place. -/
def upd {α : Type} (f : Nat → α) (t : Nat) (v : α) : Nat → α := fun i => if i = t then v else f i
theorem upd_same {α : Type} (f : Nat → α) (t : Nat) (v : α) : upd f t v t = v := by simp [upd]
theorem upd_other {α : Type} (f : Nat → α) {t i : Nat} (v : α) (h : i ≠ t) : upd f t v i = f i := by simp [upd, h]
def Tab {α : Type} (n : Nat) (f : Nat → α) : List α := (List.range n).map f
theorem Tab_len {α : Type} (n : Nat) (f : Nat → α) : (Tab n f).length = n := by simp [Tab]
theorem Tab_get {α : Type} {n i : Nat} (f : Nat → α) (h : i < n) : (Tab n f)[i]? = some (f i) := by simp [Tab, h]
theorem Tab_set {α : Type} {n i : Nat} (f : Nat → α) (v : α) : (Tab n f).set i v = Tab n (upd f i v) := by
  apply List.ext_getElem (by simp [Tab])
  intro j h1 h2
  simp only [Tab, List.length_set, List.length_map, List.length_range] at h1
  rw [List.getElem_set]
  simp only [Tab, List.getElem_map, List.getElem_range, upd]
  by_cases e : i = j
  · simp [e]
  · rw [if_neg e, if_neg (fun h => e h.symm)]
theorem Tab_congr {α : Type} {n : Nat} {f g : Nat → α} (h : ∀ i, i < n → f i = g i) : Tab n f = Tab n g := by
  unfold Tab
  exact List.map_congr_left (fun i hi => h i (by simpa using hi))

/-- Block b holds just the cells C, none of them frozen. -/
def Blk (w : World) (b t : Nat) (C : List Value) : Prop := w.heap[b]? = some (.cells C.toArray t (0, 0))
theorem Blk.lt {w : World} {b t : Nat} {C : List Value} (h : Blk w b t C) : b < w.heap.size := lt_of_block h
theorem Blk.cell {w : World} {b t : Nat} {C : List Value} (h : Blk w b t C) {i : Nat} {v : Value} (hv : C[i]? = some v) : w.cell? ⟨b, i, none⟩ = some v := by
  unfold Blk at h
  simp only [World.cell?, h]
  simpa using hv
theorem Blk.frozen {w : World} {b t : Nat} {C : List Value} (h : Blk w b t C) (i : Nat) : w.frozen? ⟨b, i, none⟩ = false := by
  unfold Blk at h
  simp [World.frozen?, h]
theorem Blk.new (w : World) (C : List Value) (t : Nat) : Blk (w.alloc (.cells C.toArray t)) w.heap.size t C := heap_alloc_new w _
theorem Blk.new' {w : World} {n : Nat} (h : w.heap.size = n) (C : List Value) (t : Nat) : Blk (w.alloc (.cells C.toArray t)) n t C := h ▸ Blk.new w C t
theorem Blk.alloc {w : World} {b t : Nat} {C : List Value} (h : Blk w b t C) (o : Obj) : Blk (w.alloc o) b t C := (Below.heap_alloc _ _ _ h.lt).trans h
theorem Blk.drew {w : World} {b t : Nat} {C : List Value} (h : Blk w b t C) : Blk w.drew b t C := h
theorem Blk.drewN {w : World} {b t : Nat} {C : List Value} (h : Blk w b t C) (n : Nat) : Blk (w.drewN n) b t C := h
theorem Blk.below {w w' : World} {b t N : Nat} {C : List Value} (h : Blk w b t C) (hb : Below N w w') (hN : b < N) : Blk w' b t C := (hb.block b hN).trans h
theorem Blk.after {w w' : World} {b t : Nat} {C : List Value} (h : Blk w b t C) (hb : Below w.heap.size w w') : Blk w' b t C := h.below hb h.lt
theorem Blk.grown {w w' : World} {b t : Nat} {C : List Value} {row : Option Nat} (h : Blk w b t C) (hg : w.grownBy w' row) (hr : row ≠ some b) : Blk w' b t C := (hg.block b h.lt (Ne.symm hr)).trans h
theorem Blk.other {w : World} {b t : Nat} {C : List Value} (h : Blk w b t C) {p : Addr} (hp : b ≠ p.block) (v : Value) : Blk (w.setCell p v) b t C := (Below.heap_setCell _ _ _ _ hp).trans h
theorem Blk.set {w : World} {b t : Nat} {C : List Value} (h : Blk w b t C) (i : Nat) (v : Value) : Blk (w.setCell ⟨b, i, none⟩ v) b t (C.set i v) := by
  have := heap_setCell_same w b i C.toArray t v h
  unfold Blk
  rw [this]; simp
theorem Blk.ne {w : World} {b b' t t' : Nat} {C C' : List Value} (h : Blk w b t C) (h' : Blk w b' t' C') (ht : t ≠ t') : b ≠ b' := by
  rintro rfl
  unfold Blk at h h'
  rw [h] at h'
  simp at h'
  exact ht h'.2
theorem Blk.ne_own {w : World} {b t e base size n : Nat} {C xs : List Value} {v : Value} (h : Blk w b t C) (ho : w.ownsRow base e size v n xs) (ht : t ≠ e) : v.ownBlock ≠ some b := by
  intro hb
  rcases ho.2 with ⟨rfl, _⟩ | ⟨g, cap, cur, rfl, _, hg, _⟩
  · simp [Value.ownBlock] at hb
  · simp [Value.ownBlock] at hb
    subst hb
    unfold Blk at h
    rw [h] at hg
    simp at hg
    exact ht hg.2
theorem Blk.tabCell {w : World} {b t n : Nat} {f : Nat → Value} (h : Blk w b t (Tab n f)) {i : Nat} (hi : i < n) : w.cell? ⟨b, i, none⟩ = some (f i) := h.cell (Tab_get f hi)
theorem Blk.tabSet {w : World} {b t n : Nat} {f : Nat → Value} (h : Blk w b t (Tab n f)) (i : Nat) (v : Value) : Blk (w.setCell ⟨b, i, none⟩ v) b t (Tab n (upd f i v)) := by
  have := h.set i v
  rwa [Tab_set] at this

/-- Rows v 0 .. v (N-1), each of the call's own, no two in one block. -/
structure Fam (w : World) (base N e size : Nat) (v : Nat → Value) (m : Nat → Nat) (xs : Nat → List Value) : Prop where
  own : ∀ i, i < N → w.ownsRow base e size (v i) (m i) (xs i)
  apart : ∀ i j, i < N → j < N → i ≠ j → ∀ g, (v i).ownBlock = some g → (v j).ownBlock ≠ some g
theorem Fam.nil (w : World) (base N e size : Nat) : Fam w base N e size (fun _ => .slice none 0 0) (fun _ => 0) (fun _ => []) :=
  ⟨fun _ _ => World.ownsRow_nil _ _ _ _, fun _ _ _ _ _ g h => by simp [Value.ownBlock] at h⟩
theorem Fam.kept {w w' : World} {base N e size : Nat} {v : Nat → Value} {m : Nat → Nat} {xs : Nat → List Value} (h : Fam w base N e size v m xs) {row : Option Nat} (hg : w.grownBy w' row) (hr : ∀ i, i < N → (v i).ownBlock = none ∨ (v i).ownBlock ≠ row) : Fam w' base N e size v m xs :=
  ⟨fun i hi => (h.own i hi).kept hg (hr i hi), h.apart⟩
theorem Fam.alloc {w : World} {base N e size : Nat} {v : Nat → Value} {m : Nat → Nat} {xs : Nat → List Value} (h : Fam w base N e size v m xs) (o : Obj) : Fam (w.alloc o) base N e size v m xs :=
  ⟨fun i hi => (h.own i hi).alloc o, h.apart⟩
theorem Fam.drew {w : World} {base N e size : Nat} {v : Nat → Value} {m : Nat → Nat} {xs : Nat → List Value} (h : Fam w base N e size v m xs) : Fam w.drew base N e size v m xs :=
  ⟨fun i hi => (h.own i hi).drew, h.apart⟩
theorem Fam.after {w w' : World} {base N e size : Nat} {v : Nat → Value} {m : Nat → Nat} {xs : Nat → List Value} (h : Fam w base N e size v m xs) (hb : Below w.heap.size w w') : Fam w' base N e size v m xs :=
  ⟨fun i hi => ownsRow_below (h.own i hi) hb, h.apart⟩
theorem Fam.setCell {w : World} {base N e size b t : Nat} {v : Nat → Value} {m : Nat → Nat} {xs : Nat → List Value} {C : List Value} (h : Fam w base N e size v m xs) (hb : Blk w b t C) (ht : t ≠ e) (o : Nat) (u : Value) : Fam (w.setCell ⟨b, o, none⟩ u) base N e size v m xs :=
  ⟨fun i hi => ownsRow_setCell_other (h.own i hi) (hb.ne_own (h.own i hi) ht) u, h.apart⟩
/-- Row k has grown. -/
theorem Fam.append {w w' : World} {base N e size k n' : Nat} {v : Nat → Value} {m : Nat → Nat} {xs : Nat → List Value} {v' : Value} {ys : List Value} (h : Fam w base N e size v m xs) (hk : k < N)
    (ho : w'.ownsRow base e size v' n' ys) (hg : w.grownBy w' (v k).ownBlock) (hat : v'.ownBlock = (v k).ownBlock ∨ v'.ownBlock = some w.heap.size) : Fam w' base N e size (upd v k v') (upd m k n') (upd xs k ys) := by
  have hlt : ∀ i, i < N → ∀ g, (v i).ownBlock = some g → g < w.heap.size := fun i hi g hg => ((h.own i hi).lt g hg).2
  refine ⟨fun i hi => ?_, fun i j hi hj hij g h1 => ?_⟩
  · by_cases e : i = k
    · subst e; rw [upd_same, upd_same, upd_same]; exact ho
    · rw [upd_other _ _ e, upd_other _ _ e, upd_other _ _ e]
      refine (h.own i hi).kept hg ?_
      cases hv : (v i).ownBlock with
      | none => exact Or.inl rfl
      | some g => exact Or.inr (fun h2 => h.apart i k hi hk e g hv h2.symm)
  · by_cases ei : i = k
    · subst ei
      rw [upd_same] at h1
      rw [upd_other _ _ (Ne.symm hij)]
      rcases hat with h2 | h2
      · exact h.apart i j hi hj hij g (by rw [← h2, h1])
      · rw [h2] at h1
        intro h3
        have := hlt j hj g h3
        simp at h1; omega
    · rw [upd_other _ _ ei] at h1
      by_cases ej : j = k
      · subst ej
        rw [upd_same]
        rcases hat with h2 | h2
        · rw [h2]; exact h.apart i j hi hj hij g h1
        · rw [h2]
          have := hlt i hi g h1
          intro h3; simp at h3; omega
      · rw [upd_other _ _ ej]
        exact h.apart i j hi hj hij g h1
end
end Go.Proofs.YtpeaefeoogcepaaDoor
