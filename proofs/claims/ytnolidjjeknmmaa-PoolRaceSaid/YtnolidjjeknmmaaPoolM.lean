/- The pool's rules over plain lists. -/
import Derived.Test.YtnolidjjeknmmaaIntIdx
namespace Go.Proofs.Ytnolidjjeknmmaa

def PoolM.step (pick : List Int → Nat → Nat) (seen : List Int → Int → List Int) (size : Nat) (kept : List Int) (i : Nat) (ref : Int) : List Int :=
  if ref ∈ kept then seen kept ref else (if kept.length = size then kept.eraseIdx (pick kept i) else kept) ++ [ref]
/-- What is kept after so many of the refs. -/
def PoolM.kept (pick : List Int → Nat → Nat) (seen : List Int → Int → List Int) (size : Nat) (refs : List Int) : Nat → List Int
  | 0 => []
  | i + 1 => PoolM.step pick seen size (PoolM.kept pick seen size refs i) i (refs.getD i 0)
/-- Which of the first so many were there. -/
def PoolM.hits (pick : List Int → Nat → Nat) (seen : List Int → Int → List Int) (size : Nat) (refs : List Int) (n : Nat) : List Bool :=
  (List.range n).map fun j => decide (refs.getD j 0 ∈ PoolM.kept pick seen size refs j)
theorem PoolM.hits_len (pick : List Int → Nat → Nat) (seen : List Int → Int → List Int) (size : Nat) (refs : List Int) (n : Nat) : (PoolM.hits pick seen size refs n).length = n := by simp [PoolM.hits]
theorem PoolM.hits_succ (pick : List Int → Nat → Nat) (seen : List Int → Int → List Int) (size : Nat) (refs : List Int) (n : Nat) :
    PoolM.hits pick seen size refs (n + 1) = PoolM.hits pick seen size refs n ++ [decide (refs.getD n 0 ∈ PoolM.kept pick seen size refs n)] := by
  simp [PoolM.hits, List.range_succ]

/-- A rule: it picks one of those that are there; who is seen stays, and nobody else comes or goes. -/
structure PoolM.Rule (pick : List Int → Nat → Nat) (seen : List Int → Int → List Int) : Prop where
  pick : ∀ l i, 0 < l.length → pick l i < l.length
  seen : ∀ l x, x ∈ l → (seen l x).Perm l

theorem PoolM.kept_len {pick : List Int → Nat → Nat} {seen : List Int → Int → List Int} (hr : PoolM.Rule pick seen) (size : Nat) (h1 : 1 ≤ size) (refs : List Int) : ∀ n, (PoolM.kept pick seen size refs n).length ≤ size
  | 0 => by simp [PoolM.kept]
  | n + 1 => by
    have ih := PoolM.kept_len hr size h1 refs n
    unfold PoolM.kept PoolM.step
    split
    · rename_i h
      rw [(hr.seen _ _ h).length_eq]; exact ih
    · split
      · rename_i h
        have hp := hr.pick (PoolM.kept pick seen size refs n) n (by omega)
        rw [List.length_append, List.length_eraseIdx, if_pos hp]
        simp only [List.length_cons, List.length_nil]; omega
      · rw [List.length_append]; simp only [List.length_cons, List.length_nil]; omega

def PoolM.oldest (_ : List Int) (_ : Nat) : Nat := 0
def PoolM.same (l : List Int) (_ : Int) : List Int := l
def PoolM.touch (l : List Int) (x : Int) : List Int := l.eraseIdx (l.findIdx (fun y => x == y)) ++ [x]
/-- When x comes next, from i on. -/
def PoolM.next (refs : List Int) (x : Int) (i : Nat) : Nat := if (refs.drop i).findIdx (fun y => x == y) < (refs.drop i).length then i + (refs.drop i).findIdx (fun y => x == y) else refs.length
/-- The place of the one that comes last, among the first k. -/
def PoolM.far (refs : List Int) (l : List Int) (i : Nat) : Nat → Nat
  | 0 => 0
  | k + 1 => if PoolM.next refs (l.getD (PoolM.far refs l i k) 0) i < PoolM.next refs (l.getD k 0) i then k else PoolM.far refs l i k
def PoolM.farthest (refs : List Int) (l : List Int) (i : Nat) : Nat := PoolM.far refs l i l.length

theorem PoolM.touch_perm (l : List Int) (x : Int) (h : x ∈ l) : (PoolM.touch l x).Perm l := by
  unfold PoolM.touch
  have hlt : l.findIdx (fun y => x == y) < l.length := List.findIdx_lt_length_of_exists ⟨x, h, by simp⟩
  have hx : l[l.findIdx (fun y => x == y)] = x := by
    have h2 := List.findIdx_getElem (w := hlt)
    simp at h2
    exact h2.symm
  generalize l.findIdx (fun y => x == y) = k at *
  have e : l = l.take k ++ x :: l.drop (k + 1) := by
    conv => lhs; rw [← List.take_append_drop k l, List.drop_eq_getElem_cons hlt, hx]
  rw [List.eraseIdx_eq_take_drop_succ]
  conv => rhs; rw [e]
  rw [List.append_assoc]
  refine List.Perm.append_left _ ?_
  exact List.perm_append_comm
theorem PoolM.far_lt (refs l : List Int) (i : Nat) : ∀ k, PoolM.far refs l i k ≤ k - 1
  | 0 => Nat.le_refl _
  | k + 1 => by
    have := PoolM.far_lt refs l i k
    unfold PoolM.far
    split <;> omega
theorem PoolM.rule_fifo : PoolM.Rule PoolM.oldest PoolM.same := ⟨fun _ _ h => h, fun _ _ _ => List.Perm.refl _⟩
theorem PoolM.rule_lru : PoolM.Rule PoolM.oldest PoolM.touch := ⟨fun _ _ h => h, fun l x h => PoolM.touch_perm l x h⟩
theorem PoolM.rule_best (refs : List Int) : PoolM.Rule (PoolM.farthest refs) PoolM.same := ⟨fun l i h => by
  have := PoolM.far_lt refs l i l.length
  unfold PoolM.farthest; omega, fun _ _ _ => List.Perm.refl _⟩
end Go.Proofs.Ytnolidjjeknmmaa
