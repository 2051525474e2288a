/- leaf.copied and leaf.Put: what they compute. -/
import Derived.Test.YtnolidjjeknmmaaLeafCheck
namespace Go.Proofs.Ytnolidjjeknmmaa
open Go.RowKit Go.Lib

theorem Try.infoSlot : (Try.prog.info? 54).map (fun i => (i.zero, i.size, i.bytes)) = some (some (.agg #[.bool false, .string { data := #[] }]), 2, 24) := by kernel_rfl

theorem LeafM.cells_at (ls : List (Bool × ByteArray)) : ∀ (k : Nat) (h : k < ls.length), (LeafM.cells ls)[k * 2]? = some (.bool ls[k].1) ∧ (LeafM.cells ls)[k * 2 + 1]? = some (.string ls[k].2) := by
  induction ls with
  | nil => intro k h; simp at h
  | cons s l ih =>
    intro k h
    cases k with
    | zero => simp [LeafM.cells]
    | succ k =>
      have := ih k (by simpa using h)
      simp only [LeafM.cells, List.flatMap_cons] at this ⊢
      have e1 : (k + 1) * 2 = k * 2 + 2 := by omega
      have e2 : k * 2 + 2 + 1 = k * 2 + 1 + 2 := by omega
      rw [e1, e2]
      simpa using this
theorem LeafM.cells_len (ls : List (Bool × ByteArray)) : (LeafM.cells ls).length = ls.length * 2 := by
  induction ls with
  | nil => rfl
  | cons s l ih => simp only [LeafM.cells, List.flatMap_cons, List.length_append, List.length_cons, List.length_nil] at *; omega
theorem LeafM.cells_one (ls : List (Bool × ByteArray)) : ∀ u ∈ LeafM.cells ls, u.oneCell' = true := by
  intro u hu
  simp only [LeafM.cells, List.mem_flatMap] at hu
  obtain ⟨s, _, hs⟩ := hu
  simp at hs
  rcases hs with rfl | rfl <;> rfl
theorem LeafM.slots_cells {w : World} {b off : Nat} {ls : List (Bool × ByteArray)} (h : SlotsAt w b off ls) : ∀ j u, (LeafM.cells ls)[j]? = some u → w.cell? ((⟨b, off, none⟩ : Addr).add j) = some u := by
  intro j u hu
  have hj : j < ls.length * 2 := by
    have := (List.getElem?_eq_some_iff.1 hu).1
    rwa [LeafM.cells_len] at this
  have hk : j / 2 < ls.length := by omega
  obtain ⟨h1, h2⟩ := h (j / 2) hk
  obtain ⟨c1, c2⟩ := LeafM.cells_at ls (j / 2) hk
  rw [Addr.add_lit]
  rcases Nat.mod_two_eq_zero_or_one j with hm | hm
  · have e : j = j / 2 * 2 := by omega
    rw [← e] at c1 h1
    rw [h1]; rw [hu] at c1; exact c1.symm
  · have e : j = j / 2 * 2 + 1 := by omega
    rw [← e] at c2
    rw [show off + j = off + j / 2 * 2 + 1 by omega, h2]; rw [hu] at c2; exact c2.symm
theorem LeafM.owns_slots {w : World} {B g n cap : Nat} {ls : List (Bool × ByteArray)} (h : w.ownsRow B 54 2 (.slice (some ⟨g, 0, none⟩) n cap) n (LeafM.cells ls)) (hn : n = ls.length) : SlotsAt w g 0 ls := by
  intro k hk
  obtain ⟨c1, c2⟩ := LeafM.cells_at ls k hk
  have a1 := h.cellAt (k * 2) (by omega)
  have a2 := h.cellAt (k * 2 + 1) (by omega)
  exact ⟨by rw [Nat.zero_add, a1, c1], by rw [Nat.zero_add, a2, c2]⟩

/-- A copy: memory of the call's own from block B on. -/
def LeafM.Copied (B : Nat) (ls : List (Bool × ByteArray)) (w : World) (e : Ending) (w' : World) : Prop :=
  ∃ v, e = .returned (.agg #[v]) ∧ w'.ownsRow B 54 2 v ls.length (LeafM.cells ls) ∧ Below B w w' ∧ v ≠ .slice none 0 0

set_option maxRecDepth 20000 in
set_option maxHeartbeats 1000000 in
theorem copied_some (ls : List (Bool × ByteArray)) (b off cap : Nat) (w : World) (hb : b < w.heap.size) (hrow : SlotsAt w b off ls) (hn : ls.length ≤ 41) :
    Calls Try.prog 58 #[.agg #[.slice (some ⟨b, off, none⟩) ls.length cap]] w (LeafM.Copied w.heap.size ls w) := by
  obtain ⟨i0, hi, hz0, hz1, hz2⟩ := info_parts Try.infoSlot
  have Hrow := box hrow; have Hb := box hb
  clear hrow hb
  have hown := World.ownsRow_made (base := w.heap.size + 2) (e := 54) (size := 2) ((w.alloc (.cells #[.slice (some ⟨b, off, none⟩) ls.length cap] 50)).alloc (.cells #[.slice none 0 0] 50)) #[] 0 (by simp) (by decide) rfl
  simp only [World.size_alloc] at hown
  have hsl : SlotsAt (((w.alloc (.cells #[.slice (some ⟨b, off, none⟩) ls.length cap] 50)).alloc (.cells #[.slice none 0 0] 50)).alloc (.cells #[] 54)) b off ls :=
    Hrow.out.below ((((Below.refl w.heap.size w).alloc (Nat.le_refl _) _).alloc (by simp) _).alloc (by simp; omega) _) Hb.out
  have Hsl := box (LeafM.slots_cells hsl)
  clear hsl
  go_enter Try.func58, Try.ntmps58
  go_wp2_with (at_builtin; refine wpList_append_own _ rfl _ _ 48 rfl (w.heap.size + 2) 54 i0 _ 2 24 Try.underlying48 hi hz0 hz1 hz2 rfl (by decide) _ _ _ rfl hown ⟨b, off, none⟩ ls.length cap (LeafM.cells ls) rfl (LeafM.cells_len ls) Hsl.out (LeafM.cells_one ls) (by unfold maxLen; omega) (by omega) (by simp) ?_)
  intro v' w1 hown1 hgrow hv
  obtain ⟨g, cap', hv', hg1, hg2, hg3⟩ := ownsRow_shape hown1 hv
  rw [hv'] at hown1 ⊢
  have Hg1 : Box (w.heap.size + 2 ≤ g) := box hg1
  have Hsz1 : Box (w.heap.size + 3 ≤ w1.heap.size) := ⟨by have := hgrow.size; simp at this; omega⟩
  have hgB : Below (w.heap.size + 2) (((w.alloc (.cells #[.slice (some ⟨b, off, none⟩) ls.length cap] 50)).alloc (.cells #[.slice none 0 0] 50)).alloc (.cells #[] 54)) w1 :=
    (Below.refl _ _).grown hgrow (by simp) (fun k hk => by simp [Value.ownBlock] at hk; omega)
  have hx1 : (((w.alloc (.cells #[.slice (some ⟨b, off, none⟩) ls.length cap] 50)).alloc (.cells #[.slice none 0 0] 50)).alloc (.cells #[] 54)).cell? ⟨w.heap.size + 1, 0, none⟩ = some (.slice none 0 0) := by go_simp
  have hx2 : (((w.alloc (.cells #[.slice (some ⟨b, off, none⟩) ls.length cap] 50)).alloc (.cells #[.slice none 0 0] 50)).alloc (.cells #[] 54)).frozen? ⟨w.heap.size + 1, 0, none⟩ = false := by go_simp
  have hc1 : w1.cell? ⟨w.heap.size + 1, 0, none⟩ = some (.slice none 0 0) := (hgB.cell (p := ⟨w.heap.size + 1, 0, none⟩) (Nat.lt_succ_self _)).trans hx1
  have hf1 : w1.frozen? ⟨w.heap.size + 1, 0, none⟩ = false := (hgB.frozen (p := ⟨w.heap.size + 1, 0, none⟩) (Nat.lt_succ_self _)).trans hx2
  clear hx1 hx2
  have HgB := box hgB; have Hown1 := box hown1
  clear hgB hown1 hgrow hv hown hv' hg1 hg2
  go_wp2_with fail
  refine bodyPost_ret (v := .agg #[.slice (some ⟨g, 0, none⟩) ls.length cap']) (by simp [results, Try.results58, go_sem, hc1]) rfl ⟨_, rfl, ?_, ?_, by simp⟩
  · refine ownsRow_mono (ownsRow_setCell_other Hown1.out ?_ _) (Nat.le_add_right _ 2)
    have := Hg1.out
    simp [Value.ownBlock]; omega
  · exact ((((Below.refl w.heap.size w).alloc (Nat.le_refl _) _).alloc (by simp) _).alloc (by simp; omega) _).trans ((HgB.out.mono (by omega))) |>.setCell (by simp) _
set_option maxRecDepth 20000 in
set_option maxHeartbeats 1000000 in
theorem copied_nothing (ad : Addr) (cap : Nat) (w : World) :
    Calls Try.prog 58 #[.agg #[.slice (some ad) 0 cap]] w (LeafM.Copied w.heap.size [] w) := by
  obtain ⟨i0, hi, hz0, hz1, hz2⟩ := info_parts Try.infoSlot
  have hown := World.ownsRow_made (base := w.heap.size + 2) (e := 54) (size := 2) ((w.alloc (.cells #[.slice (some ad) 0 cap] 50)).alloc (.cells #[.slice none 0 0] 50)) #[] 0 (by simp) (by decide) rfl
  simp only [World.size_alloc] at hown
  go_enter Try.func58, Try.ntmps58
  go_wp2_with (at_builtin; refine wpList_append_own _ rfl _ _ 48 rfl (w.heap.size + 2) 54 i0 _ 2 24 Try.underlying48 hi hz0 hz1 hz2 rfl (by decide) _ _ _ rfl hown ad 0 cap [] rfl rfl (by simp) (by simp) (by decide) (by decide) (by simp) ?_)
  intro v' w1 hown1 hgrow hv
  obtain ⟨g, cap', hv', hg1, hg2, hg3⟩ := ownsRow_shape hown1 hv
  rw [hv'] at hown1 ⊢
  have Hg1 : Box (w.heap.size + 2 ≤ g) := box hg1
  have Hsz1 : Box (w.heap.size + 3 ≤ w1.heap.size) := ⟨by have := hgrow.size; simp at this; omega⟩
  have hgB : Below (w.heap.size + 2) (((w.alloc (.cells #[.slice (some ad) 0 cap] 50)).alloc (.cells #[.slice none 0 0] 50)).alloc (.cells #[] 54)) w1 :=
    (Below.refl _ _).grown hgrow (by simp) (fun k hk => by simp [Value.ownBlock] at hk; omega)
  have hx1 : (((w.alloc (.cells #[.slice (some ad) 0 cap] 50)).alloc (.cells #[.slice none 0 0] 50)).alloc (.cells #[] 54)).cell? ⟨w.heap.size + 1, 0, none⟩ = some (.slice none 0 0) := by go_simp
  have hx2 : (((w.alloc (.cells #[.slice (some ad) 0 cap] 50)).alloc (.cells #[.slice none 0 0] 50)).alloc (.cells #[] 54)).frozen? ⟨w.heap.size + 1, 0, none⟩ = false := by go_simp
  have hc1 : w1.cell? ⟨w.heap.size + 1, 0, none⟩ = some (.slice none 0 0) := (hgB.cell (p := ⟨w.heap.size + 1, 0, none⟩) (Nat.lt_succ_self _)).trans hx1
  have hf1 : w1.frozen? ⟨w.heap.size + 1, 0, none⟩ = false := (hgB.frozen (p := ⟨w.heap.size + 1, 0, none⟩) (Nat.lt_succ_self _)).trans hx2
  clear hx1 hx2
  have HgB := box hgB; have Hown1 := box hown1
  clear hgB hown1 hgrow hv hown hv' hg1 hg2
  go_wp2_with fail
  refine bodyPost_ret (v := .agg #[.slice (some ⟨g, 0, none⟩) 0 cap']) (by simp [results, Try.results58, go_sem, hc1]) rfl ⟨_, rfl, ?_, ?_, by simp⟩
  · refine ownsRow_mono (ownsRow_setCell_other Hown1.out ?_ _) (Nat.le_add_right _ 2)
    have := Hg1.out
    simp [Value.ownBlock]; omega
  · exact ((((Below.refl w.heap.size w).alloc (Nat.le_refl _) _).alloc (by simp) _).alloc (by simp; omega) _).trans ((HgB.out.mono (by omega))) |>.setCell (by simp) _

set_option maxRecDepth 20000 in
set_option maxHeartbeats 1000000 in
theorem copied_nil (w : World) :
    Calls Try.prog 58 #[.agg #[.slice none 0 0]] w (LeafM.Copied w.heap.size [] w) := by
  obtain ⟨i0, hi, hz0, hz1, hz2⟩ := info_parts Try.infoSlot
  have hown := World.ownsRow_made (base := w.heap.size + 2) (e := 54) (size := 2) ((w.alloc (.cells #[.slice none 0 0] 50)).alloc (.cells #[.slice none 0 0] 50)) #[] 0 (by simp) (by decide) rfl
  simp only [World.size_alloc] at hown
  have hx1 : (((w.alloc (.cells #[.slice none 0 0] 50)).alloc (.cells #[.slice none 0 0] 50)).alloc (.cells #[] 54)).cell? ⟨w.heap.size + 1, 0, none⟩ = some (.slice none 0 0) := by go_simp
  have hx2 : (((w.alloc (.cells #[.slice none 0 0] 50)).alloc (.cells #[.slice none 0 0] 50)).alloc (.cells #[] 54)).frozen? ⟨w.heap.size + 1, 0, none⟩ = false := by go_simp
  go_enter Try.func58, Try.ntmps58
  go_wp2_with (at_builtin; refine wpList_append_own_none rfl _ _ 48 rfl (w.heap.size + 2) 54 i0 2 Try.underlying48 hi _ _ _ rfl hown rfl ?_)
  refine bodyPost_ret (v := .agg #[.slice (some ⟨w.heap.size + 1 + 1, 0, none⟩) 0 0]) (by simp [results, Try.results58, go_sem]) rfl ⟨_, rfl, ?_, ?_, by simp⟩
  · have h2 := World.ownsRow_made (base := w.heap.size + 2) (e := 54) (size := 2) ((w.alloc (.cells #[.slice none 0 0] 50)).alloc (.cells #[.slice (some ⟨w.heap.size + 1 + 1, 0, none⟩) 0 0] 50)) #[] 0 (by simp) (by decide) rfl
    simp only [World.size_alloc] at h2
    exact ownsRow_mono h2 (Nat.le_add_right _ 2)
  · exact (((Below.refl w.heap.size w).alloc (Nat.le_refl _) _).alloc (by simp) _).alloc (by simp; omega) _

/-- A slice's address and capacity as Go bears them: a nil slice has none. -/
theorem copied_any (ls : List (Bool × ByteArray)) (ao : Option Addr) (cap : Nat) (w : World) (h : LeafM.At w ao ls) (hnil : ao = none → cap = 0) (hn : ls.length ≤ 41) :
    Calls Try.prog 58 #[.agg #[.slice ao ls.length cap]] w (LeafM.Copied w.heap.size ls w) := by
  rcases h with rfl | ⟨b, off, rfl, h2, h3⟩
  · cases ao with
    | none => obtain rfl := hnil rfl; exact copied_nil w
    | some ad => exact copied_nothing ad cap w
  · exact copied_some ls b off cap w h2 h3 hn
end Go.Proofs.Ytnolidjjeknmmaa
