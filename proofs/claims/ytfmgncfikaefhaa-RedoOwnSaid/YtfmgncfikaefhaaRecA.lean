/- Records: what mkample.py's texts ask for. -/
import Derived.Test.YtfmgncfikaefhaaRedoE
namespace Go.Proofs.Ytfmgncfikaefhaa
open Go.RowKit Go.Lib

theorem RecA.own {w : World} {base n cap : Nat} {ao : Option Addr} {l : List RecM} (h : w.ownsRow base 25 5 (.slice ao n cap) n (recsVals l)) : RecsAt w ao l := by
  obtain ⟨ao', cap', e, _, hat, _⟩ := RecsAt.own h
  injection e with e1 _ _
  subst e1
  exact hat
theorem RecA.left {w : World} {ao : Option Addr} {l m : List RecM} (h : RecsAt w ao (l ++ m)) : RecsAt w ao l := by
  rcases h with h | ⟨b, off, h1, h2, h3⟩
  · exact Or.inl (List.append_eq_nil_iff.1 h).1
  · refine Or.inr ⟨b, off, h1, h2, fun k hk => ?_⟩
    have := h3 k (by rw [List.length_append]; omega)
    rw [List.getElem_append_left hk] at this
    exact this
theorem RecA.cellsAt {w : World} {ao : Option Addr} {l : List RecM} (h : RecsAt w ao l) : ∀ ad, ao = some ad → ∀ j u, (recsVals l)[j]? = some u → w.cell? (ad.add j) = some u := by
  intro ad he j u hu
  rcases h with h | ⟨b, off, h1, h2, h3⟩
  · subst h; simp [recsVals] at hu
  · rw [he] at h1
    injection h1 with h1
    subst h1
    exact recs_cells h3 j u hu
theorem RecA.elem {w : World} {ao : Option Addr} {b off : Nat} {l : List RecM} (h : RecsAt w ao l) (hao : ao = some ⟨b, off, none⟩) (k : Nat) (hk : k < l.length) : w.cell? ⟨b, off + k * 5, none⟩ = some (.int .i64 l[k].kind) ∧ w.cell? ⟨b, off + k * 5 + 1, none⟩ = some (.int .i64 l[k].tx) ∧
    w.cell? ⟨b, off + k * 5 + 2, none⟩ = some (.int .i64 l[k].item) ∧ w.cell? ⟨b, off + k * 5 + 3, none⟩ = some (.int .i64 l[k].old) ∧ w.cell? ⟨b, off + k * 5 + 4, none⟩ = some (.int .i64 l[k].new) := by
  rcases h with h | ⟨b', off', h1, h2, h3⟩
  · subst h; simp at hk
  · rw [hao] at h1
    simp only [Option.some.injEq, Addr.mk.injEq, and_true] at h1
    obtain ⟨rfl, rfl⟩ := h1
    exact h3 k hk
theorem RecA.equal (l : List RecM) (ao bo : Option Addr) (cap cap' : Nat) (w : World) (h : RecsAt w ao l) (h' : RecsAt w bo l) (hn : l.length ≤ 9000000000000) :
    Calls Try.prog 11 #[.slice ao l.length cap, .slice bo l.length cap'] w fun e w' => e = .returned (.bool true) ∧ ∃ n, w' = w.drewN n := by
  have := equal_recs l l ao bo cap cap' w h h' hn hn
  rwa [decide_eq_true rfl] at this
end Go.Proofs.Ytfmgncfikaefhaa
