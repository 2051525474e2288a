/- Records as cells; slices.Clone over records. -/
import Derived.Test.YtfmgncfikaefhaaRedoC
import Derived.Lib.LazyBuf
import Derived.Deep.DeepMust
namespace Go.Proofs.Ytfmgncfikaefhaa
open Go.RowKit Go.Lib

def recsVals (l : List RecM) : List Value := l.flatMap RecM.vals
theorem Try.infoRec : (Try.prog.info? 25).map (fun i => (i.zero, i.size, i.bytes)) = some (some (.agg #[.int .i64 0, .int .i64 0, .int .i64 0, .int .i64 0, .int .i64 0]), 5, 40) := by kernel_rfl
theorem recsVals_len (l : List RecM) : (recsVals l).length = l.length * 5 := by
  induction l with
  | nil => rfl
  | cons r l ih => simp only [recsVals, List.flatMap_cons, List.length_append, List.length_cons] at *; rw [ih]; simp only [RecM.vals, List.length_cons, List.length_nil]; omega
theorem recsVals_append (l m : List RecM) : recsVals (l ++ m) = recsVals l ++ recsVals m := by simp [recsVals]
theorem recsVals_one (l : List RecM) : ∀ u ∈ recsVals l, u.oneCell' = true := by
  intro u hu
  simp only [recsVals, List.mem_flatMap] at hu
  obtain ⟨r, _, hr⟩ := hu
  simp only [RecM.vals, List.mem_cons, List.not_mem_nil, or_false] at hr
  rcases hr with rfl | rfl | rfl | rfl | rfl <;> rfl
theorem recsVals_at : ∀ (l : List RecM) (k : Nat) (h : k < l.length) (j : Nat), j < 5 → (recsVals l)[k * 5 + j]? = (RecM.vals l[k])[j]?
  | [], k, h, _, _ => by simp at h
  | r :: l, 0, _, j, hj => by
    simp only [recsVals, List.flatMap_cons, Nat.zero_mul, Nat.zero_add, List.getElem_cons_zero]
    rw [List.getElem?_append_left (by simp only [RecM.vals, List.length_cons, List.length_nil]; exact hj)]
  | r :: l, k + 1, h, j, hj => by
    have ih := recsVals_at l k (by simpa using h) j hj
    simp only [recsVals, List.flatMap_cons, List.getElem_cons_succ] at ih ⊢
    rw [List.getElem?_append_right (by simp only [RecM.vals, List.length_cons, List.length_nil]; omega), ← ih]
    congr 1
    simp only [RecM.vals, List.length_cons, List.length_nil]; omega
theorem recs_cells {w : World} {b off : Nat} {l : List RecM} (h : ∀ k (h : k < l.length), w.cell? ⟨b, off + k * 5, none⟩ = some (.int .i64 l[k].kind) ∧ w.cell? ⟨b, off + k * 5 + 1, none⟩ = some (.int .i64 l[k].tx) ∧
    w.cell? ⟨b, off + k * 5 + 2, none⟩ = some (.int .i64 l[k].item) ∧ w.cell? ⟨b, off + k * 5 + 3, none⟩ = some (.int .i64 l[k].old) ∧ w.cell? ⟨b, off + k * 5 + 4, none⟩ = some (.int .i64 l[k].new)) :
    ∀ j u, (recsVals l)[j]? = some u → w.cell? ((⟨b, off, none⟩ : Addr).add j) = some u := by
  intro j u hu
  have hj : j < l.length * 5 := by
    have := (List.getElem?_eq_some_iff.1 hu).1
    rwa [recsVals_len] at this
  have hk : j / 5 < l.length := by omega
  obtain ⟨a0, a1, a2, a3, a4⟩ := h (j / 5) hk
  have hat := recsVals_at l (j / 5) hk (j % 5) (by omega)
  rw [show j / 5 * 5 + j % 5 = j by omega, hu] at hat
  rw [Addr.add_lit]
  have hm : j % 5 = 0 ∨ j % 5 = 1 ∨ j % 5 = 2 ∨ j % 5 = 3 ∨ j % 5 = 4 := by omega
  rcases hm with e | e | e | e | e <;> rw [e] at hat <;> simp only [RecM.vals, List.getElem?_cons_zero, List.getElem?_cons_succ] at hat <;> injection hat with hat <;> subst hat
  · rw [show off + j = off + j / 5 * 5 by omega]; exact a0
  · rw [show off + j = off + j / 5 * 5 + 1 by omega]; exact a1
  · rw [show off + j = off + j / 5 * 5 + 2 by omega]; exact a2
  · rw [show off + j = off + j / 5 * 5 + 3 by omega]; exact a3
  · rw [show off + j = off + j / 5 * 5 + 4 by omega]; exact a4
theorem RecsAt.own {w : World} {base n : Nat} {v : Value} {l : List RecM} (h : w.ownsRow base 25 5 v n (recsVals l)) : ∃ ao cap, v = .slice ao l.length cap ∧ n = l.length ∧ RecsAt w ao l ∧ (ao = none → cap = 0) ∧ l.length ≤ cap := by
  have hl : n = l.length := by have := h.1; rw [recsVals_len] at this; omega
  have h0 := h
  rcases h.2 with ⟨h1, h2⟩ | ⟨g, cap, cur, h1, h2, h3, h4, _⟩
  · have e : l = [] := List.eq_nil_of_length_eq_zero (by omega)
    subst e
    exact ⟨none, 0, h1, hl, Or.inl rfl, fun _ => rfl, Nat.le_refl _⟩
  · refine ⟨some ⟨g, 0, none⟩, cap, by rw [h1, hl], hl, Or.inr ⟨g, 0, rfl, lt_of_block h3, fun k hk => ?_⟩, fun e => (by cases e), by omega⟩
    rw [h1] at h0
    have c := fun j (hj : j < 5) => (h0.cellAt (k * 5 + j) (by omega)).trans (recsVals_at l k hk j hj)
    simp only [Nat.zero_add]
    exact ⟨c 0 (by omega), c 1 (by omega), c 2 (by omega), c 3 (by omega), c 4 (by omega)⟩

set_option maxRecDepth 20000 in
set_option maxHeartbeats 2000000 in
theorem cloneRecs_any (l : List RecM) (ao : Option Addr) (cap : Nat) (w : World) (h : RecsAt w ao l) (hnil : ao = none → cap = 0) (hn : l.length ≤ 1000000000000) :
    Calls Try.prog 21 #[.slice ao l.length cap] w fun e w' => (∃ v, e = .returned v ∧ w'.ownsRow w.heap.size 25 5 v l.length (recsVals l)) ∧ Below w.heap.size w w' := by
  have H := box h
  clear h
  cases ao with
  | none =>
    have hl : l = [] := H.out.resolve_right (by rintro ⟨b, off, h, _⟩; cases h)
    have hc := hnil rfl
    subst hl
    subst hc
    have q0 := fun (w : World) (a : Option Addr) (n c : Nat) => run_eql_slice_nil (P := Try.prog) w 22 25 a n c Try.underlying22
    go_enter Try.func21, Try.ntmps21
    go_wp2_with fail
    go_ret
    exact ⟨⟨_, rfl, World.ownsRow_nil _ _ _ _⟩, Below.refl _ _⟩
  | some ad =>
    obtain ⟨i0, hi0, hz0, hz1, hz2⟩ := info_parts Try.infoRec
    have Hcs : Box (∀ wx, Below w.heap.size w wx → ∀ j u, (recsVals l)[j]? = some u → wx.cell? (ad.add j) = some u) := ⟨fun wx hx j u hu => by
      rcases H.out.below hx (Nat.le_refl _) with h | ⟨b, off, h1, h2, h3⟩
      · subst h; simp [recsVals] at hu
      · injection h1 with h1
        subst h1
        exact recs_cells h3 j u hu⟩
    clear hnil
    have q0 := fun (w : World) (a : Option Addr) (n c : Nat) => run_eql_slice_nil (P := Try.prog) w 22 25 a n c Try.underlying22
    go_enter Try.func21, Try.ntmps21
    have hown := World.ownsRow_lit (base := w.heap.size) (e := 25) (size := 5) w #[] 0 (Nat.le_refl _) (Nat.zero_le _) rfl
    have HB := box ((Below.refl w.heap.size w).alloc (Nat.le_refl _) (.cells #[] 25))
    go_wp2_with (at_builtin; go_must (refine wpList_append_own _ rfl _ _ 22 rfl w.heap.size 25 i0 _ 5 40 Try.underlying22 hi0 hz0 hz1 hz2 rfl (by decide) _ _ _ rfl hown ad l.length cap (recsVals l) rfl (recsVals_len l) (Hcs.out _ HB.out) (recsVals_one l) (by unfold maxLen; omega) (by omega) (by simp) ?_))
    intro v' w9 hown3 hgrow _
    have HB9 := box (HB.out.grown hgrow (by simp) (fun j hj => by have := hown.lt j hj; omega))
    clear hgrow hown
    go_wp2_with fail
    go_ret
    exact ⟨⟨_, rfl, by simpa using hown3⟩, HB9.out⟩
end Go.Proofs.Ytfmgncfikaefhaa
