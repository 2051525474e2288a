/- The clock over plain lists. -/
import Derived.Test.YtnolidjjeknmmaaPoolM
namespace Go.Proofs.Ytnolidjjeknmmaa

structure PoolM.Ck where
  fr : List Int
  us : List Bool
  hand : Nat
def PoolM.sweep (size : Nat) : Nat → List Bool → Nat → List Bool × Nat
  | 0, us, h => (us, h)
  | f + 1, us, h => if us.getD h false = true then PoolM.sweep size f (us.set h false) ((h + 1) % size) else (us, h)
def PoolM.swept (size : Nat) (us : List Bool) (h : Nat) : List Bool × Nat := PoolM.sweep size (us.count true) us h
theorem PoolM.swept_true {size : Nat} {us : List Bool} {h : Nat} (hh : us.getD h false = true) : PoolM.swept size us h = PoolM.swept size (us.set h false) ((h + 1) % size) := by
  have hl : h < us.length := by
    apply Classical.byContradiction
    intro hn
    rw [List.getD_eq_getElem?_getD, List.getElem?_eq_none (by omega)] at hh
    simp at hh
  have hg : us[h] = true := by rw [List.getD_eq_getElem?_getD, List.getElem?_eq_getElem hl] at hh; exact hh
  have hc : us.count true = (us.set h false).count true + 1 := by
    rw [List.count_set hl]
    have : 0 < us.count true := List.count_pos_iff.2 (hg ▸ List.getElem_mem hl)
    simp [hg]; omega
  unfold PoolM.swept
  rw [hc]
  conv => lhs; unfold PoolM.sweep
  rw [if_pos hh]
theorem PoolM.swept_false {size : Nat} {us : List Bool} {h : Nat} (hh : us.getD h false = false) : PoolM.swept size us h = (us, h) := by
  unfold PoolM.swept
  cases us.count true with
  | zero => rfl
  | succ n => unfold PoolM.sweep; rw [if_neg (by rw [hh]; simp)]
theorem PoolM.sweep_ok {size : Nat} (h1 : 1 ≤ size) : ∀ (f : Nat) (us : List Bool) (h : Nat), h < size → (PoolM.sweep size f us h).2 < size ∧ (PoolM.sweep size f us h).1.length = us.length
  | 0, us, h, hh => ⟨hh, rfl⟩
  | f + 1, us, h, hh => by
    unfold PoolM.sweep
    split
    · have := PoolM.sweep_ok h1 f (us.set h false) ((h + 1) % size) (Nat.mod_lt _ h1)
      rw [List.length_set] at this
      exact this
    · exact ⟨hh, rfl⟩

def PoolM.clk (size : Nat) (s : PoolM.Ck) (ref : Int) : PoolM.Ck :=
  if ref ∈ s.fr then ⟨s.fr, s.us.set (s.fr.findIdx (fun y => ref == y)) true, s.hand⟩
  else if s.fr.length < size then ⟨s.fr ++ [ref], s.us ++ [true], s.hand⟩
  else ⟨s.fr.set (PoolM.swept size s.us s.hand).2 ref, (PoolM.swept size s.us s.hand).1.set (PoolM.swept size s.us s.hand).2 true, ((PoolM.swept size s.us s.hand).2 + 1) % size⟩
def PoolM.clkAt (size : Nat) (refs : List Int) : Nat → PoolM.Ck
  | 0 => ⟨[], [], 0⟩
  | i + 1 => PoolM.clk size (PoolM.clkAt size refs i) (refs.getD i 0)
def PoolM.clkHits (size : Nat) (refs : List Int) (n : Nat) : List Bool := (List.range n).map fun j => decide (refs.getD j 0 ∈ (PoolM.clkAt size refs j).fr)
theorem PoolM.clkHits_len (size : Nat) (refs : List Int) (n : Nat) : (PoolM.clkHits size refs n).length = n := by simp [PoolM.clkHits]
theorem PoolM.clkHits_succ (size : Nat) (refs : List Int) (n : Nat) : PoolM.clkHits size refs (n + 1) = PoolM.clkHits size refs n ++ [decide (refs.getD n 0 ∈ (PoolM.clkAt size refs n).fr)] := by
  simp [PoolM.clkHits, List.range_succ]
structure PoolM.CkOk (size : Nat) (s : PoolM.Ck) : Prop where
  same : s.us.length = s.fr.length
  le : s.fr.length ≤ size
  hand : s.hand < size
theorem PoolM.clk_ok {size : Nat} (h1 : 1 ≤ size) (refs : List Int) : ∀ n, PoolM.CkOk size (PoolM.clkAt size refs n)
  | 0 => ⟨rfl, Nat.zero_le _, h1⟩
  | n + 1 => by
    have ih := PoolM.clk_ok h1 refs n
    unfold PoolM.clkAt PoolM.clk
    split
    · exact ⟨by rw [List.length_set]; exact ih.same, ih.le, ih.hand⟩
    · split
      · exact ⟨by simp [ih.same], by simp only [List.length_append, List.length_cons, List.length_nil]; omega, ih.hand⟩
      · have h := PoolM.sweep_ok h1 ((PoolM.clkAt size refs n).us.count true) (PoolM.clkAt size refs n).us (PoolM.clkAt size refs n).hand ih.hand
        refine ⟨?_, ?_, Nat.mod_lt _ h1⟩
        · simp only [List.length_set]
          exact h.2.trans ih.same
        · simp only [List.length_set]; exact ih.le
end Go.Proofs.Ytnolidjjeknmmaa
