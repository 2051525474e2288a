/- LockOwn: what lies in memory while the lists of a table are copied with spare memory behind them. -/
import Derived.Test.YtjbmkhalmmahkaaLkAmple
import Derived.Test.YtjbmkhalmmahkaaLkSpoil
import Derived.Test.YtjbmkhalmmahkaaLkAskP
import Derived.Test.YtjbmkhalmmahkaaLkDropS
namespace Go.Proofs.Ytjbmkhalmmahkaa
open Go.RowKit Go.Lib

theorem flatMap_same {α β : Type} {f g : α → List β} : ∀ {l : List α}, (∀ x ∈ l, f x = g x) → l.flatMap f = l.flatMap g
  | [], _ => rfl
  | x :: r, h => by rw [List.flatMap_cons, List.flatMap_cons, h x List.mem_cons_self, flatMap_same fun y hy => h y (List.mem_cons_of_mem _ hy)]
namespace LkM
/-- The first K lists, each in a block of its own with two locks f behind. -/
structure AmpT (W : World) (B : Nat) (t : List LiM) (f : LkM) (g : Nat → Nat) (K : Nat) : Prop where
  own : ∀ i, i < K → LkAmple W B (g i) (row t i) f
  apart : ∀ i j, i < K → j < K → i ≠ j → g i ≠ g j
def ampV (g : Nat → Nat) (t : List LiM) (i : Nat) : Value := .slice (some ⟨g i, 0, none⟩) (row t i).length ((row t i).length + 3)
def mixV (g : Nat → Nat) (t : List LiM) (K : Nat) (v : Nat → Value) (i : Nat) : Value := if i < K then ampV g t i else v i
section
variable {W W' : World} {B K : Nat} {t : List LiM} {f : LkM} {g : Nat → Nat}
theorem AmpT.lt (h : AmpT W B t f g K) {i : Nat} (hi : i < K) : B ≤ g i ∧ g i < W.heap.size := World.ownsRow.lt (h.own i hi) (g i) rfl
theorem AmpT.keep (h : AmpT W B t f g K) (hk : ∀ i, i < K → W'.heap[g i]? = W.heap[g i]?) : AmpT W' B t f g K :=
  ⟨fun i hi => ownsRow_same (h.own i hi) (fun b hb => by
    have : g i = b := by simpa [Value.ownBlock] using hb
    rw [← this]; exact hk i hi), h.apart⟩
theorem AmpT.after (h : AmpT W B t f g K) (hb : Below W.heap.size W W') : AmpT W' B t f g K := h.keep fun _ hi => hb.block _ (h.lt hi).2
theorem AmpT.snoc (h : AmpT W B t f g K) {x : Nat} (hx : LkAmple W B x (row t K) f) (hn : ∀ i, i < K → g i ≠ x) : AmpT W B t f (upd g K x) (K + 1) := by
  refine ⟨fun i hi => ?_, fun i j hi hj hij => ?_⟩
  · by_cases e : i = K
    · subst e; rw [upd_same]; exact hx
    · rw [upd_other _ _ e]; exact h.own i (by omega)
  · by_cases ei : i = K
    · subst ei
      rw [upd_same, upd_other _ _ (Ne.symm hij)]
      exact Ne.symm (hn j (by omega))
    · rw [upd_other _ _ ei]
      by_cases ej : j = K
      · subst ej; rw [upd_same]; exact hn i (by omega)
      · rw [upd_other _ _ ej]; exact h.apart i j (by omega) (by omega) hij
theorem ample_row {x : Nat} {l : List LkM} (h : LkAmple W B x l f) : RowIn W B (.slice (some ⟨x, 0, none⟩) l.length (l.length + 3)) l := by
  obtain ⟨hlo, hlt⟩ := World.ownsRow.lt h x rfl
  refine ⟨_, _, rfl, ?_, by omega, fun h => by cases h⟩
  rcases h.at_ with h1 | ⟨b, off, h1, h2, h3⟩
  · exact Or.inl h1
  · injection h1 with h1
    injection h1 with h1 h4
    subst h1 h4
    exact Or.inr ⟨x, 0, rfl, hlo, h2, h3⟩
end
theorem mixV_low (g : Nat → Nat) (t : List LiM) {K i : Nat} (v : Nat → Value) (h : i < K) : mixV g t K v i = ampV g t i := if_pos h
theorem mixV_high (g : Nat → Nat) (t : List LiM) {K i : Nat} (v : Nat → Value) (h : ¬ i < K) : mixV g t K v i = v i := if_neg h
/-- A table's cells. -/
theorem tab_cells {W : World} {B G n c : Nat} {t : List LiM} {v : Nat → Value} (h : W.ownsRow B 32 3 (.slice (some ⟨G, 0, none⟩) n c) n (liVals t v)) {k : Nat} (hk : k < t.length) :
    W.cell? ⟨G, k * 3, none⟩ = some (.int .i64 t[k].item) ∧ W.cell? ⟨G, k * 3 + 1, none⟩ = some (v (2 * k)) ∧ W.cell? ⟨G, k * 3 + 2, none⟩ = some (v (2 * k + 1)) := by
  obtain ⟨e1, e2, e3⟩ := liVals_at (v := v) hk
  have hl := liVals_len t v
  have hn : n = t.length := by have := h.1; rw [hl] at this; omega
  exact ⟨by rw [h.cellAt (k * 3) (by omega), e1], by rw [h.cellAt (k * 3 + 1) (by omega), e2], by rw [h.cellAt (k * 3 + 2) (by omega), e3]⟩
theorem flat3_set {α : Type} (f g h : Nat → α) (x y : α) : ∀ n k, k < n →
    (((List.range n).flatMap fun k => [f k, g k, h k]).set (k * 3 + 1) x = (List.range n).flatMap fun i => [f i, if i = k then x else g i, h i]) ∧
    (((List.range n).flatMap fun k => [f k, g k, h k]).set (k * 3 + 2) y = (List.range n).flatMap fun i => [f i, g i, if i = k then y else h i])
  | 0, k, hk => by omega
  | n + 1, k, hk => by
    have hl := flat3_len f g h n
    have e1 : ∀ (p q r : Nat → α), (List.range (n + 1)).flatMap (fun k => [p k, q k, r k]) = (List.range n).flatMap (fun k => [p k, q k, r k]) ++ [p n, q n, r n] := fun p q r => by
      rw [List.range_succ, List.flatMap_append]; simp
    rw [e1 f g h, e1 f (fun i => if i = k then x else g i) h, e1 f g (fun i => if i = k then y else h i)]
    by_cases e : k = n
    · subst e
      have c1 : (List.range k).flatMap (fun i => [f i, if i = k then x else g i, h i]) = (List.range k).flatMap (fun i => [f i, g i, h i]) := by
        refine flatMap_same fun i hi => ?_; rw [if_neg (by have := List.mem_range.1 hi; omega)]
      have c2 : (List.range k).flatMap (fun i => [f i, g i, if i = k then y else h i]) = (List.range k).flatMap (fun i => [f i, g i, h i]) := by
        refine flatMap_same fun i hi => ?_; rw [if_neg (by have := List.mem_range.1 hi; omega)]
      rw [c1, c2, List.set_append_right _ _ (by omega), List.set_append_right _ _ (by omega), hl, show k * 3 + 1 - k * 3 = 1 by omega, show k * 3 + 2 - k * 3 = 2 by omega, if_pos rfl, if_pos rfl]
      exact ⟨rfl, rfl⟩
    · obtain ⟨i1, i2⟩ := flat3_set f g h x y n k (by omega)
      rw [List.set_append_left _ _ (by omega), List.set_append_left _ _ (by omega), i1, i2, if_neg (fun h => e h.symm), if_neg (fun h => e h.symm)]
      exact ⟨rfl, rfl⟩
theorem liVals_set {t : List LiM} {v : Nat → Value} {k : Nat} (hk : k < t.length) (x : Value) : (liVals t v).set (k * 3 + 1) x = liVals t (upd v (2 * k) x) ∧ (liVals t v).set (k * 3 + 2) x = liVals t (upd v (2 * k + 1) x) := by
  obtain ⟨h1, h2⟩ := flat3_set (fun k => Value.int .i64 (t[k]!).item) (fun k => v (2 * k)) (fun k => v (2 * k + 1)) x x t.length k hk
  unfold liVals
  rw [h1, h2]
  constructor
  · refine flatMap_same fun i _ => ?_
    by_cases e : i = k
    · subst e; rw [if_pos rfl, upd_same, upd_other _ _ (by omega)]
    · rw [if_neg e, upd_other _ _ (by omega), upd_other _ _ (by omega)]
  · refine flatMap_same fun i _ => ?_
    by_cases e : i = k
    · subst e; rw [if_pos rfl, upd_same, upd_other _ _ (by omega)]
    · rw [if_neg e, upd_other _ _ (by omega), upd_other _ _ (by omega)]
theorem liVals_congr {t : List LiM} {v v' : Nat → Value} (h : ∀ i, i < 2 * t.length → v i = v' i) : liVals t v = liVals t v' := by
  unfold liVals
  refine flatMap_same fun i hi => ?_
  have := List.mem_range.1 hi
  rw [h _ (by omega), h _ (by omega)]
/-- The midst of a round that copies the two lists of item k. -/
structure AmS (W0 : World) (B G c : Nat) (t : List LiM) (v : Nat → Value) (k : Nat) (f : LkM) (b10 b17 b20 b23 : Bool) (v10 v17 : Value) (W : World) : Prop where
  rest : ∀ b, b < W0.heap.size → b ≠ G → W.heap[b]? = W0.heap[b]?
  below : Below B W0 W
  tab : W.ownsRow B 32 3 (.slice (some ⟨G, 0, none⟩) t.length c) t.length (liVals t (upd (upd v (2 * k) (if b20 = true then v10 else v (2 * k))) (2 * k + 1) (if b23 = true then v17 else v (2 * k + 1))))
  c10 : b10 = true → ∃ x, v10 = .slice (some ⟨x, 0, none⟩) (row t (2 * k)).length ((row t (2 * k)).length + 3) ∧ W0.heap.size ≤ x ∧ LkAmple W B x (row t (2 * k)) f
  c17 : b17 = true → ∃ x, v17 = .slice (some ⟨x, 0, none⟩) (row t (2 * k + 1)).length ((row t (2 * k + 1)).length + 3) ∧ W0.heap.size ≤ x ∧ LkAmple W B x (row t (2 * k + 1)) f
  ne : b10 = true → b17 = true → v10.ownBlock ≠ v17.ownBlock
  g : G < W0.heap.size ∧ B ≤ G
section
variable {W0 W W' : World} {B G c k : Nat} {t : List LiM} {v : Nat → Value} {f : LkM} {b10 b17 b20 b23 : Bool} {v10 v17 : Value}
theorem AmS.start (hB : B ≤ G) (hG : G < W0.heap.size) (h : W0.ownsRow B 32 3 (.slice (some ⟨G, 0, none⟩) t.length c) t.length (liVals t v)) : AmS W0 B G c t v k f false false false false v10 v17 W0 := by
  refine ⟨fun _ _ _ => rfl, Below.refl _ _, ?_, (fun h => by cases h), (fun h => by cases h), (fun h => by cases h), hG, hB⟩
  have : liVals t (upd (upd v (2 * k) (if false = true then v10 else v (2 * k))) (2 * k + 1) (if false = true then v17 else v (2 * k + 1))) = liVals t v := liVals_congr fun i _ => by
    by_cases e : i = 2 * k + 1
    · subst e; rw [upd_same]; rfl
    · rw [upd_other _ _ e]
      by_cases e2 : i = 2 * k
      · subst e2; rw [upd_same]; rfl
      · rw [upd_other _ _ e2]
  rw [this]; exact h
theorem AmS.cells (h : AmS W0 B G c t v k f b10 b17 b20 b23 v10 v17 W) (hk : k < t.length) : W.cell? ⟨G, k * 3 + 1, none⟩ = some (if b20 = true then v10 else v (2 * k)) ∧ W.cell? ⟨G, k * 3 + 2, none⟩ = some (if b23 = true then v17 else v (2 * k + 1)) := by
  obtain ⟨_, h1, h2⟩ := tab_cells h.tab hk
  rw [upd_other _ _ (by omega), upd_same] at h1
  rw [upd_same] at h2
  exact ⟨h1, h2⟩
theorem AmS.size (h : AmS W0 B G c t v k f b10 b17 b20 b23 v10 v17 W) : W0.heap.size ≤ W.heap.size := h.below.size
theorem AmS.after (h : AmS W0 B G c t v k f b10 b17 b20 b23 v10 v17 W) (hb : Below W.heap.size W W') : AmS W0 B G c t v k f b10 b17 b20 b23 v10 v17 W' :=
  ⟨fun b h1 h2 => (hb.block b (by have := h.size; omega)).trans (h.rest b h1 h2), h.below.trans (hb.mono (by have := h.size; have := h.g; omega)), ownsRow_below h.tab hb,
   fun h1 => let ⟨x, h2, h3, h4⟩ := h.c10 h1; ⟨x, h2, h3, h4.after hb⟩, fun h1 => let ⟨x, h2, h3, h4⟩ := h.c17 h1; ⟨x, h2, h3, h4.after hb⟩, h.ne, h.g⟩
theorem AmS.call10 (h : AmS W0 B G c t v k f false b17 false b23 v10 v17 W) {x : Nat} (hx : W.heap.size ≤ x) (hA : LkAmple W' W.heap.size x (row t (2 * k)) f) (hb : Below W.heap.size W W') : AmS W0 B G c t v k f true b17 false b23 (.slice (some ⟨x, 0, none⟩) (row t (2 * k)).length ((row t (2 * k)).length + 3)) v17 W' := by
  have h' := h.after hb
  refine ⟨h'.rest, h'.below, h'.tab, fun _ => ⟨x, rfl, by have := h.size; omega, ownsRow_mono hA (by have := h.size; have := h.g; omega)⟩, h'.c17, fun _ h1 e => ?_, h.g⟩
  obtain ⟨y, h2, _, h4⟩ := h.c17 h1
  have := (World.ownsRow.lt h4 y rfl).2
  rw [h2] at e
  simp [Value.ownBlock] at e
  omega
theorem AmS.call17 (h : AmS W0 B G c t v k f b10 false b20 false v10 v17 W) {x : Nat} (hx : W.heap.size ≤ x) (hA : LkAmple W' W.heap.size x (row t (2 * k + 1)) f) (hb : Below W.heap.size W W') : AmS W0 B G c t v k f b10 true b20 false v10 (.slice (some ⟨x, 0, none⟩) (row t (2 * k + 1)).length ((row t (2 * k + 1)).length + 3)) W' := by
  have h' := h.after hb
  refine ⟨h'.rest, h'.below, h'.tab, h'.c10, fun _ => ⟨x, rfl, by have := h.size; omega, ownsRow_mono hA (by have := h.size; have := h.g; omega)⟩, fun h1 _ e => ?_, h.g⟩
  obtain ⟨y, h2, _, h4⟩ := h.c10 h1
  have := (World.ownsRow.lt h4 y rfl).2
  rw [h2] at e
  simp [Value.ownBlock] at e
  omega
theorem LkAmple.other {x : Nat} {l : List LkM} (h : LkAmple W B x l f) {a : Addr} (hx : x ≠ a.block) (u : Value) : LkAmple (W.setCell a u) B x l f := ownsRow_setCell_other h (by simp [Value.ownBlock]; exact hx) u
theorem AmS.put20 (h : AmS W0 B G c t v k f true b17 false b23 v10 v17 W) (hk : k < t.length) : AmS W0 B G c t v k f true b17 true b23 v10 v17 (W.setCell ⟨G, k * 3 + 1, none⟩ v10) := by
  have hne : ∀ x, W0.heap.size ≤ x → x ≠ G := fun x hx e => by have := h.g; omega
  refine ⟨fun b h1 h2 => (Below.heap_setCell _ _ _ _ (by show b ≠ G; exact h2)).trans (h.rest b h1 h2), h.below.setCell (by show B ≤ G; exact h.g.2) _, ?_, fun h1 => let ⟨x, h2, h3, h4⟩ := h.c10 h1; ⟨x, h2, h3, LkAmple.other h4 (hne x h3) _⟩, fun h1 => let ⟨x, h2, h3, h4⟩ := h.c17 h1; ⟨x, h2, h3, LkAmple.other h4 (hne x h3) _⟩, h.ne, h.g⟩
  have := (h.tab.stored (k * 3 + 1) v10).1
  rw [(liVals_set hk v10).1] at this
  rw [liVals_congr (v' := upd (upd (upd v (2 * k) (if false = true then v10 else v (2 * k))) (2 * k + 1) (if b23 = true then v17 else v (2 * k + 1))) (2 * k) v10) (fun i _ => ?_)]
  · exact this
  · by_cases e : i = 2 * k
    · subst e; rw [upd_same, upd_other _ _ (by omega), upd_same]; rfl
    · rw [upd_other _ _ e]
      by_cases e2 : i = 2 * k + 1
      · subst e2; rw [upd_same, upd_same]
      · rw [upd_other _ _ e2, upd_other _ _ e, upd_other _ _ e2, upd_other _ _ e]
theorem AmS.put23 (h : AmS W0 B G c t v k f b10 true b20 false v10 v17 W) (hk : k < t.length) : AmS W0 B G c t v k f b10 true b20 true v10 v17 (W.setCell ⟨G, k * 3 + 2, none⟩ v17) := by
  have hne : ∀ x, W0.heap.size ≤ x → x ≠ G := fun x hx e => by have := h.g; omega
  refine ⟨fun b h1 h2 => (Below.heap_setCell _ _ _ _ (by show b ≠ G; exact h2)).trans (h.rest b h1 h2), h.below.setCell (by show B ≤ G; exact h.g.2) _, ?_, fun h1 => let ⟨x, h2, h3, h4⟩ := h.c10 h1; ⟨x, h2, h3, LkAmple.other h4 (hne x h3) _⟩, fun h1 => let ⟨x, h2, h3, h4⟩ := h.c17 h1; ⟨x, h2, h3, LkAmple.other h4 (hne x h3) _⟩, h.ne, h.g⟩
  have := (h.tab.stored (k * 3 + 2) v17).1
  rw [(liVals_set hk v17).2] at this
  rw [liVals_congr (v' := upd (upd (upd v (2 * k) (if b20 = true then v10 else v (2 * k))) (2 * k + 1) (if false = true then v17 else v (2 * k + 1))) (2 * k + 1) v17) (fun i _ => ?_)]
  · exact this
  · by_cases e : i = 2 * k + 1
    · subst e; rw [upd_same, upd_same]; rfl
    · rw [upd_other _ _ e, upd_other _ _ e, upd_other _ _ e]
/-- The round is done. -/
theorem AmS.fin {g : Nat → Nat} (h : AmS W0 B G c t (mixV g t (2 * k) v) k f true true true true v10 v17 W) (hA : AmpT W0 B t f g (2 * k)) (hG : ∀ i, i < 2 * k → g i ≠ G) :
    ∃ g', AmpT W B t f g' (2 * (k + 1)) ∧ (∀ i, i < 2 * (k + 1) → g' i ≠ G) ∧ W.ownsRow B 32 3 (.slice (some ⟨G, 0, none⟩) t.length c) t.length (liVals t (mixV g' t (2 * (k + 1)) v)) := by
  obtain ⟨x, e1, h1, h2⟩ := h.c10 rfl
  obtain ⟨y, e2, h3, h4⟩ := h.c17 rfl
  have hxy : x ≠ y := fun e => h.ne rfl rfl (by rw [e1, e2, e]; rfl)
  have hold : ∀ i, i < 2 * k → g i < W0.heap.size := fun i hi => (hA.lt hi).2
  have hA0 : AmpT W B t f g (2 * k) := hA.keep fun i hi => h.rest _ (hold i hi) (hG i hi)
  have hA1 := hA0.snoc h2 (fun i hi e => by have := hold i hi; omega)
  have hA2 := hA1.snoc h4 (fun i hi => by
    by_cases e : i = 2 * k
    · subst e; rw [upd_same]; exact hxy
    · rw [upd_other _ _ e]; have := hold i (by omega); omega)
  refine ⟨_, hA2, fun i hi => ?_, ?_⟩
  · by_cases e : i = 2 * k + 1
    · subst e; rw [upd_same]; have := h.g; omega
    · rw [upd_other _ _ e]
      by_cases e3 : i = 2 * k
      · subst e3; rw [upd_same]; have := h.g; omega
      · rw [upd_other _ _ e3]; exact hG i (by omega)
  · have ht := h.tab
    rw [liVals_congr (v' := mixV (upd (upd g (2 * k) x) (2 * k + 1) y) t (2 * (k + 1)) v) (fun i _ => ?_)] at ht
    · exact ht
    · by_cases e : i = 2 * k + 1
      · subst e
        rw [upd_same]
        show v17 = _
        rw [mixV_low _ _ _ (by omega), e2]; unfold ampV; rw [upd_same]
      · rw [upd_other _ _ e]
        by_cases e3 : i = 2 * k
        · subst e3
          rw [upd_same]
          show v10 = _
          rw [mixV_low _ _ _ (by omega), e1]; unfold ampV; rw [upd_other _ _ (by omega), upd_same]
        · rw [upd_other _ _ e3]
          by_cases e4 : i < 2 * k
          · rw [mixV_low _ _ _ e4, mixV_low _ _ _ (by omega)]
            unfold ampV
            rw [upd_other _ _ e, upd_other _ _ e3]
          · rw [mixV_high _ _ _ e4, mixV_high _ _ _ (by omega)]
end
/-- All lists copied: the table reads as it did. -/
theorem amp_lis {W : World} {B G c : Nat} {t : List LiM} {v : Nat → Value} {f : LkM} {g : Nat → Nat} (h : W.ownsRow B 32 3 (.slice (some ⟨G, 0, none⟩) t.length c) t.length (liVals t (mixV g t (2 * t.length) v))) (hA : AmpT W B t f g (2 * t.length)) : LisIn W B (some ⟨G, 0, none⟩) t := by
  refine lis_of h fun k hk => ?_
  rw [mixV_low _ _ _ (by omega), mixV_low _ _ _ (by omega)]
  have h1 := ample_row (hA.own (2 * k) (by omega))
  have h2 := ample_row (hA.own (2 * k + 1) (by omega))
  rw [row_held hk] at h1
  rw [row_queue hk] at h2
  unfold ampV
  rw [row_held hk, row_queue hk]
  exact ⟨h1, h2⟩
end LkM
end Go.Proofs.Ytjbmkhalmmahkaa
