/- Locks: what mkample.py's texts ask for. -/
import Derived.Test.YtjbmkhalmmahkaaLkEq
namespace Go.Proofs.Ytjbmkhalmmahkaa
open Go.RowKit Go.Lib

theorem LkA.own {w : World} {base n cap : Nat} {ao : Option Addr} {l : List LkM} (h : w.ownsRow base 28 2 (.slice ao n cap) n (lkVals l)) : LksAt w ao l := by
  obtain ⟨ao', cap', e, _, hat, _⟩ := LksAt.own h
  injection e with e1 _ _
  subst e1
  exact hat
theorem LkA.left {w : World} {ao : Option Addr} {l m : List LkM} (h : LksAt w ao (l ++ m)) : LksAt w ao l := by
  rcases h with h | ⟨b, off, h1, h2, h3⟩
  · exact Or.inl (List.append_eq_nil_iff.1 h).1
  · refine Or.inr ⟨b, off, h1, h2, fun k hk => ?_⟩
    have := h3 k (by rw [List.length_append]; omega)
    rw [List.getElem_append_left hk] at this
    exact this
theorem LkA.cellsAt {w : World} {ao : Option Addr} {l : List LkM} (h : LksAt w ao l) : ∀ ad, ao = some ad → ∀ j u, (lkVals l)[j]? = some u → w.cell? (ad.add j) = some u := by
  intro ad he j u hu
  rcases h with h | ⟨b, off, h1, h2, h3⟩
  · subst h; simp [lkVals] at hu
  · rw [he] at h1
    injection h1 with h1
    subst h1
    have hj : j < l.length * 2 := by have := (List.getElem?_eq_some_iff.1 hu).1; rw [lkVals_len] at this; exact this
    rw [Addr.add_lit]
    have hk : j / 2 < l.length := by omega
    obtain ⟨a0, a1⟩ := lkVals_at l (j / 2) hk
    obtain ⟨c0, c1⟩ := h3 (j / 2) hk
    rcases Nat.mod_two_eq_zero_or_one j with e | e
    · have ej : j / 2 * 2 = j := by omega
      rw [ej] at a0 c0
      rw [c0, ← a0, hu]
    · have ej : j / 2 * 2 + 1 = j := by omega
      rw [ej] at a1
      rw [show off + j / 2 * 2 + 1 = off + j by omega] at c1
      rw [c1, ← a1, hu]
theorem LkA.elem {w : World} {ao : Option Addr} {b off : Nat} {l : List LkM} (h : LksAt w ao l) (hao : ao = some ⟨b, off, none⟩) (k : Nat) (hk : k < l.length) : w.cell? ⟨b, off + k * 2, none⟩ = some (.int .i64 l[k].tx) ∧ w.cell? ⟨b, off + k * 2 + 1, none⟩ = some (.int .i64 l[k].mode) := by
  rcases h with h | ⟨b', off', h1, h2, h3⟩
  · subst h; simp at hk
  · rw [hao] at h1
    simp only [Option.some.injEq, Addr.mk.injEq, and_true] at h1
    obtain ⟨rfl, rfl⟩ := h1
    exact h3 k hk
theorem LkA.equal (l : List LkM) (ao bo : Option Addr) (cap cap' : Nat) (w : World) (h : LksAt w ao l) (h' : LksAt w bo l) (hn : l.length ≤ 9000000000000) :
    Calls Try.prog 36 #[.slice ao l.length cap, .slice bo l.length cap'] w fun e w' => e = .returned (.bool true) ∧ ∃ n, w' = w.drewN n := by
  have h1 := equal_lks l l ao bo cap cap' w h h' hn hn
  rwa [show decide (l = l) = true from decide_eq_true rfl] at h1
end Go.Proofs.Ytjbmkhalmmahkaa
