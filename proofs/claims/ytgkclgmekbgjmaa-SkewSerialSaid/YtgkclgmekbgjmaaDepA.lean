/- order.Deps: its closure that adds a dependency. -/
import Derived.Test.YtgkclgmekbgjmaaDepL
import Derived.Deep.DeepMust
namespace Go.Proofs.Ytgkclgmekbgjmaa
open Go.RowKit Go.Lib

theorem info_partsD {T : TypeId} {z : Option Value} {s b : Nat} (h : (Try.prog.info? T).map (fun i => (i.zero, i.size, i.bytes)) = some (z, s, b)) : ∃ i, Try.prog.info? T = some i ∧ i.zero = z ∧ i.size = s ∧ i.bytes = b := by
  cases hi : Try.prog.info? T with
  | none => rw [hi] at h; simp at h
  | some i => rw [hi] at h; simp at h; exact ⟨i, rfl, h.1, h.2.1, h.2.2⟩
theorem Try.infoDep : (Try.prog.info? 106).map (fun i => (i.zero, i.size, i.bytes)) = some (some (.agg #[.int .i64 0, .int .i64 0, .int .i64 0]), 3, 24) := by kernel_rfl

/-- The row under way: its slice lies in cell X; all that stood stands. -/
structure DepIn (w0 : World) (X : Nat) (l : List DepM) (W : World) : Prop where
  below : Below w0.heap.size w0 W
  high : w0.heap.size ≤ X
  row : ∃ v, Blk W X 102 [v] ∧ W.ownsRow w0.heap.size 106 3 v l.length (dpVals l)
theorem DepIn.after {w0 W W' : World} {X : Nat} {l : List DepM} (h : DepIn w0 X l W) (hb : Below W.heap.size W W') : DepIn w0 X l W' := by
  obtain ⟨h1, h2, v, h3, h4⟩ := h
  exact ⟨below_tr h1 hb, h2, v, h3.after hb, ownsRow_below h4 hb⟩
theorem DepIn.alloc {w0 W : World} {X : Nat} {l : List DepM} (h : DepIn w0 X l W) (o : Obj) : DepIn w0 X l (W.alloc o) := h.after ((Below.refl _ _).alloc (Nat.le_refl _) o)
/-- What add leaves. -/
def DepIn.Post (w0 : World) (X : Nat) (l : List DepM) (W : World) (e : Ending) (W' : World) : Prop :=
  e = .returned (.tuple #[]) ∧ DepIn w0 X l W' ∧ W.heap.size ≤ W'.heap.size ∧ ∀ b t C, t ≠ 102 → t ≠ 106 → Blk W b t C → Blk W' b t C

set_option maxRecDepth 20000 in
set_option maxHeartbeats 4000000 in
theorem depAdd_any (f t k : Int) (w0 : World) (X : Nat) (l : List DepM) (W : World) (h : DepIn w0 X l W) (hn : l.length ≤ 100000000) :
    Calls Try.prog 95 #[.int .i64 f, .int .i64 t, .int .i64 k, .pointer (some ⟨X, 0, none⟩)] W (DepIn.Post w0 X (l ++ DepM.add f t k) W) := by
  obtain ⟨i0, hi0, hz0, hz1, hz2⟩ := info_partsD Try.infoDep
  have H := box h
  have HA : Box (DepM.add f t k = if f ≠ t ∧ 0 ≤ f then [⟨f, t, k⟩] else []) := ⟨rfl⟩
  have HPost : Box (∀ l' W' e, e = .returned (.tuple #[]) → DepIn w0 X l' W' → W.heap.size ≤ W'.heap.size → (∀ b t C, t ≠ 102 → t ≠ 106 → Blk W b t C → Blk W' b t C) → DepIn.Post w0 X l' W e W') := ⟨fun l' W' e h1 h2 h3 h4 => ⟨h1, h2, h3, h4⟩⟩
  clear h
  obtain ⟨D, HD⟩ : ∃ D, Box (DepM.add f t k = D) := ⟨_, ⟨rfl⟩⟩
  rw [HD.out] at HA ⊢
  obtain ⟨L', HL⟩ : ∃ L', Box (l ++ D = L') := ⟨_, ⟨rfl⟩⟩
  rw [HL.out]
  obtain ⟨Post, HP⟩ : ∃ P, Box (DepIn.Post w0 X L' W = P) := ⟨_, ⟨rfl⟩⟩
  have HPost2 : Box (∀ W' e, e = .returned (.tuple #[]) → DepIn w0 X L' W' → W.heap.size ≤ W'.heap.size → (∀ b t C, t ≠ 102 → t ≠ 106 → Blk W b t C → Blk W' b t C) → Post e W') := ⟨by rw [← HP.out]; exact HPost.out L'⟩
  rw [HP.out]
  clear HP HPost
  by_cases hne : f = t
  · have hd1 : (f != t) = false := by simpa using hne
    have HE : Box (L' = l) := ⟨by rw [← HL.out, HA.out, if_neg (fun h => h.1 hne), List.append_nil]⟩
    clear hne HA
    go_enter Try.func95, Try.ntmps95
    go_wp2_with fail
    refine bodyPost_end (results_none rfl _ _ _) rfl (HPost2.out _ _ rfl ?_ (Nat.le_refl _) (fun _ _ _ _ _ h => h))
    rw [HE.out]; exact H.out
  have hd1 : (f != t) = true := by simpa using hne
  by_cases h0 : f < 0
  · have hd2 : decide (0 ≤ f) = false := decide_eq_false (by omega)
    have HE : Box (L' = l) := ⟨by rw [← HL.out, HA.out, if_neg (fun h => by omega), List.append_nil]⟩
    clear hne HA h0
    go_enter Try.func95, Try.ntmps95
    go_wp2_with fail
    refine bodyPost_end (results_none rfl _ _ _) rfl (HPost2.out _ _ rfl ?_ (Nat.le_refl _) (fun _ _ _ _ _ h => h))
    rw [HE.out]; exact H.out
  have hd2 : decide (0 ≤ f) = true := decide_eq_true (by omega)
  have HE : Box (L' = l ++ [⟨f, t, k⟩]) := ⟨by rw [← HL.out, HA.out, if_pos ⟨hne, by omega⟩]⟩
  clear hne h0 HA HL HD
  obtain ⟨v, hX, hown⟩ := H.out.row
  have HX := box hX; have HO := box hown
  have hc := hX.cell (i := 0) rfl
  have hf := hX.frozen 0
  have hown2 := hown.alloc (.cells #[.int .i64 f, .int .i64 t, .int .i64 k] 106)
  have hXl := hX.lt
  have HBs : Box (w0.heap.size ≤ W.heap.size) := ⟨H.out.below.size⟩
  have HXo : Box (v.ownBlock ≠ some X) := ⟨hX.ne_own hown (by decide)⟩
  clear hX hown
  go_enter Try.func95, Try.ntmps95
  go_wp2_with (at_builtin; go_must (refine wpList_append_own _ rfl _ _ 102 rfl w0.heap.size 106 i0 _ 3 24 Try.underlying102 hi0 hz0 hz1 hz2 rfl (by decide) _ _ _ rfl hown2 ⟨W.heap.size, 0, none⟩ 1 1 [.int .i64 f, .int .i64 t, .int .i64 k] rfl rfl (cells_new W [.int .i64 f, .int .i64 t, .int .i64 k] 106) (by simp [Value.oneCell']) (by unfold maxLen; omega) (by omega) (by have := HBs.out; simp; omega) ?_))
  intro v' w3 hown3 hgrow hat
  obtain ⟨g3, cap3, rfl, _, _, _⟩ := ownsRow_shape hown3 hat
  have HO3 := box hown3; have HG := box hgrow
  clear hat
  have hXv : v.ownBlock ≠ some X := HXo.out
  have HX3 : Box (Blk w3 X 102 [v]) := ⟨(HX.out.alloc _).grown hgrow hXv⟩
  have hc3 := HX3.out.cell (i := 0) rfl
  have hf3 := HX3.out.frozen 0
  have HXn : Box ((Value.slice (some ⟨g3, 0, none⟩) (l.length + 1) cap3).ownBlock ≠ some X) := ⟨HX3.out.ne_own hown3 (by decide)⟩
  clear hown3 hgrow hown2 hc hf hXv
  go_wp2_with fail
  refine bodyPost_end (results_none rfl _ _ _) rfl (HPost2.out _ _ rfl ⟨?_, H.out.high, _, HX3.out.set 0 _, ?_⟩ ?_ ?_)
  · have hb1 : Below w0.heap.size w0 (W.alloc (.cells #[.int .i64 f, .int .i64 t, .int .i64 k] 106)) := H.out.below.alloc HBs.out _
    exact (hb1.grown HG.out (by have := HBs.out; simp; omega) (fun b hb => (HO.out.lt b hb).1)).setCell H.out.high _
  · rw [HE.out, dpVals_append, List.length_append]
    exact ownsRow_setCell_other HO3.out HXn.out _
  · have := HG.out.size; simp at this ⊢; omega
  · intro b t C h1 h2 hB
    have h3 : Blk w3 b t C := (hB.alloc _).grown HG.out (hB.ne_own HO.out h2)
    exact h3.other (hB.ne HX.out h1) _
end Go.Proofs.Ytgkclgmekbgjmaa
