/- graph.Order: the plain laws of its tables. -/
import Derived.Test.YtgkclgmekbgjmaaGrN
import Derived.Test.YtgkclgmekbgjmaaIntIdx
namespace Go.Proofs.Ytgkclgmekbgjmaa
namespace GrM
section
variable {n : Nat} {l : List EgM} {out : List Nat}
/-- How many of the first i come to x. -/
def deg (l : List EgM) (i x : Nat) : Nat := ((List.range i).filter fun a => E l a x).length
theorem deg_le (l : List EgM) (i x : Nat) : deg l i x ≤ i := by
  unfold deg
  exact Nat.le_trans (List.length_filter_le _ _) (by simp)
theorem deg_succ (l : List EgM) (i x : Nat) : deg l (i + 1) x = deg l i x + if E l i x = true then 1 else 0 := by
  unfold deg
  rw [List.range_succ, List.filter_append, List.length_append]
  congr 1
  by_cases h : E l i x = true <;> simp [h]
/-- .. and k of those that i comes to. -/
def degIn (n : Nat) (l : List EgM) (i k x : Nat) : Int := deg l i x + if x ∈ (next n l i).take k then 1 else 0
theorem degIn_zero (n : Nat) (l : List EgM) (i x : Nat) : degIn n l i 0 x = deg l i x := by unfold degIn; simp
theorem degIn_all {i x : Nat} (hx : x < n) : degIn n l i (next n l i).length x = deg l (i + 1) x := by
  unfold degIn
  rw [List.take_length, deg_succ]
  by_cases h : E l i x = true
  · rw [if_pos (mem_next.2 ⟨hx, h⟩), if_pos h]; simp
  · rw [if_neg (fun h2 => h (mem_next.1 h2).2), if_neg h]; simp
theorem take_step {r : List Nat} {k : Nat} (hk : k < r.length) (x : Nat) : x ∈ r.take (k + 1) ↔ x = r[k] ∨ x ∈ r.take k := by
  rw [List.take_succ_eq_append_getElem hk, List.mem_append, List.mem_singleton]
  exact Or.comm
theorem take_new {r : List Nat} (hnd : r.Nodup) {k : Nat} (hk : k < r.length) : r[k] ∉ r.take k := by
  intro hm
  obtain ⟨i, hi, he⟩ := List.mem_iff_getElem.1 hm
  rw [List.length_take] at hi
  rw [List.getElem_take] at he
  rw [List.nodup_iff_pairwise_ne, List.pairwise_iff_getElem] at hnd
  exact hnd i k (by omega) hk (by omega) he
theorem degIn_step {i k : Nat} (hk : k < (next n l i).length) : degIn n l i (k + 1) = Go.Proofs.Ytgkclgmekbgjmaa.upd (degIn n l i k) ((next n l i)[k]) (degIn n l i k ((next n l i)[k]) + 1) := by
  funext x
  have hnd := next_nodup n l i
  have h1 := take_new hnd hk
  unfold Go.Proofs.Ytgkclgmekbgjmaa.upd degIn
  by_cases e : x = (next n l i)[k]
  · rw [if_pos e, if_pos ((take_step hk x).2 (Or.inl e)), if_neg h1, e]; omega
  · rw [if_neg e]
    by_cases h : x ∈ (next n l i).take k
    · have h2 : x ∈ (next n l i).take (k + 1) := (take_step hk x).2 (Or.inr h)
      simp [h, h2]
    · have h2 : x ∉ (next n l i).take (k + 1) := fun h3 => ((take_step hk x).1 h3).elim e h
      simp [h, h2]
theorem tab_start (x : Nat) : tab n l [] x = (deg l n x : Int) := by
  unfold tab ahead deg
  simp
/-- The table while k is taken out: j of those that k comes to have been told. -/
def tabIn (n : Nat) (l : List EgM) (out : List Nat) (k j x : Nat) : Int := if x = k then -1 else tab n l out x - if x ∈ (next n l k).take j then 1 else 0
theorem tabIn_zero (n : Nat) (l : List EgM) (out : List Nat) (k : Nat) : tabIn n l out k 0 = Go.Proofs.Ytgkclgmekbgjmaa.upd (tab n l out) k (-1) := by
  funext x
  unfold tabIn Go.Proofs.Ytgkclgmekbgjmaa.upd
  simp
theorem tabIn_step {k j : Nat} (hk0 : tab n l out k = 0) (hkn : k < n) (hj : j < (next n l k).length) : tabIn n l out k (j + 1) = Go.Proofs.Ytgkclgmekbgjmaa.upd (tabIn n l out k j) ((next n l k)[j]) (tabIn n l out k j ((next n l k)[j]) - 1) := by
  funext x
  have hnd := next_nodup n l k
  have h1 := take_new hnd hj
  have hne : (next n l k)[j] ≠ k := by
    intro e
    have h2 := (mem_next.1 (List.getElem_mem hj)).2
    rw [e] at h2
    have hz := tab_zero.1 hk0
    rw [hz.2 k hkn hz.1] at h2; cases h2
  unfold Go.Proofs.Ytgkclgmekbgjmaa.upd tabIn
  by_cases e : x = (next n l k)[j]
  · rw [if_pos e, if_neg (by rw [e]; exact hne), if_pos ((take_step hj x).2 (Or.inl e)), if_neg hne, if_neg h1, e]; omega
  · rw [if_neg e]
    by_cases h : x ∈ (next n l k).take j
    · have h2 : x ∈ (next n l k).take (j + 1) := (take_step hj x).2 (Or.inr h)
      simp [h, h2]
    · have h2 : x ∉ (next n l k).take (j + 1) := fun h3 => ((take_step hj x).1 h3).elim e h
      simp [h, h2]
theorem tabIn_all {k : Nat} (ho : Out n l out) (hk0 : tab n l out k = 0) (hkn : k < n) {x : Nat} (hx : x < n) : tabIn n l out k (next n l k).length x = tab n l (out ++ [k]) x := by
  have hz := tab_zero.1 hk0
  unfold tabIn
  rw [List.take_length]
  by_cases e : x = k
  · subst e
    rw [if_pos rfl]
    unfold tab
    rw [if_pos (by simp)]
  · rw [if_neg e, tab_snoc hk0 hkn e]
    by_cases hxo : x ∈ out
    · have h1 : E l k x = false := ho.none_behind x hxo k hkn hz.1
      rw [if_neg (fun h => by have := (mem_next.1 h).2; rw [h1] at this; cases this), if_pos (by simpa using hxo)]
      unfold tab
      rw [if_pos (by simpa using hxo)]; omega
    · have hc : out.contains x = false := by simpa using hxo
      simp only [hc, Bool.false_eq_true, if_false]
      by_cases hE : E l k x = true
      · rw [if_pos (mem_next.2 ⟨hx, hE⟩), if_pos hE]
      · rw [if_neg (fun h => hE (mem_next.1 h).2), if_neg hE]; omega
theorem tab_bounds (n : Nat) (l : List EgM) (out : List Nat) (x : Nat) : -1 ≤ tab n l out x ∧ tab n l out x ≤ n := by
  unfold tab
  have : ahead n l out x ≤ n := by
    unfold ahead
    exact Nat.le_trans (List.length_filter_le _ _) (by simp)
  split <;> omega
theorem tabIn_bounds (n : Nat) (l : List EgM) (out : List Nat) (k j x : Nat) : -2 ≤ tabIn n l out k j x ∧ tabIn n l out k j x ≤ n := by
  have := tab_bounds n l out x
  unfold tabIn
  split
  · omega
  · split <;> omega
/-- The list of a table. -/
def tabL (n : Nat) (f : Nat → Int) : List Int := (List.range n).map f
theorem tabL_len (n : Nat) (f : Nat → Int) : (tabL n f).length = n := by simp [tabL]
theorem tabL_get (f : Nat → Int) {k : Nat} (h : k < n) : (tabL n f)[k]'(by rw [tabL_len]; exact h) = f k := by simp [tabL]
theorem idx_tab (f : Nat → Int) : IntsM.idx (tabL n f) 0 = if (List.range n).findIdx (fun x => decide (f x = 0)) < n then (((List.range n).findIdx (fun x => decide (f x = 0)) : Nat) : Int) else -1 := by
  unfold IntsM.idx IntsM.find
  have e : (tabL n f).findIdx (fun y => (0 : Int) == y) = (List.range n).findIdx (fun x => decide (f x = 0)) := by
    unfold tabL
    rw [List.findIdx_map]
    congr 1
    funext x
    simp only [Function.comp_apply]
    rw [Bool.eq_iff_iff]
    simp only [beq_iff_eq, decide_eq_true_eq]
    exact eq_comm
  rw [e, tabL_len]
theorem orderGo_step {f : Nat} (h : out.length < n) (hp : pick n l out < n) : orderGo n l (f + 1) out = orderGo n l f (out ++ [pick n l out]) := by
  conv => lhs; unfold orderGo
  rw [if_pos h, if_pos hp]
theorem orderGo_stuck {f : Nat} (h : out.length < n) (hp : ¬ pick n l out < n) : orderGo n l (f + 1) out = none := by
  conv => lhs; unfold orderGo
  rw [if_pos h, if_neg hp]
end
end GrM
/-- A table of ints in a block. -/
def ITab (w : World) (A n : Nat) (g : Nat → Int) : Prop := Blk w A 3 (Tab n (fun x => Value.int .i64 (g x)))
section
variable {w : World} {A n : Nat} {g : Nat → Int}
theorem ITab.cell (h : ITab w A n g) {i : Nat} (hi : i < n) : w.cell? ⟨A, i, none⟩ = some (.int .i64 (g i)) := Blk.tabCell h hi
theorem ITab.set (h : ITab w A n g) (i : Nat) (x : Int) : ITab (w.setCell ⟨A, i, none⟩ (.int .i64 x)) A n (upd g i x) := by
  have h1 := Blk.tabSet h i (.int .i64 x)
  have e : upd (fun x => Value.int .i64 (g x)) i (.int .i64 x) = fun k => Value.int .i64 (upd g i x k) := by
    funext k; unfold upd; split <;> rfl
  rw [e] at h1
  exact h1
theorem ITab.congr (h : ITab w A n g) {f : Nat → Int} (e : ∀ i, i < n → f i = g i) : ITab w A n f := by
  have h1 : Tab n (fun x => Value.int .i64 (f x)) = Tab n (fun x => Value.int .i64 (g x)) := Tab_congr (fun i hi => by rw [e i hi])
  unfold ITab
  rw [h1]; exact h
theorem ITab.ints (h : ITab w A n g) : IntsAt w (some ⟨A, 0, none⟩) (GrM.tabL n g) :=
  Or.inr ⟨A, 0, rfl, Blk.lt h, fun k hk => by rw [Nat.zero_add, GrM.tabL_get g (by rwa [GrM.tabL_len] at hk)]; exact h.cell (by rwa [GrM.tabL_len] at hk)⟩
end
end Go.Proofs.Ytgkclgmekbgjmaa
