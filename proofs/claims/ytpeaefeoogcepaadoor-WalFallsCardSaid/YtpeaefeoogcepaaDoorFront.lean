/- front: is a list a beginning of another one? -/
import Derived.Test.YtpeaefeoogcepaaDoorStrEq
namespace Go.Proofs.YtpeaefeoogcepaaDoor
open Go.RowKit Go.Lib

theorem StrsAt.take {w : World} {ao : Option Addr} {l : List ByteArray} (h : StrsAt w ao l) (n : Nat) : StrsAt w ao (l.take n) := by
  rcases h with h | ⟨b, off, rfl, h1, h2⟩
  · subst h; exact Or.inl (by simp)
  · exact Or.inr ⟨b, off, rfl, h1, fun k hk => by
      rw [List.getElem_take]
      exact h2 k (by rw [List.length_take] at hk; omega)⟩
theorem prefix_take {l m : List ByteArray} : decide (l <+: m) = (decide (l.length ≤ m.length) && decide (l = m.take l.length)) := by
  by_cases h : l <+: m
  · rw [decide_eq_true h, decide_eq_true h.length_le, decide_eq_true (List.prefix_iff_eq_take.1 h)]; rfl
  · rw [decide_eq_false h]
    by_cases h2 : l = m.take l.length
    · exact absurd (List.prefix_iff_eq_take.2 h2) h
    · rw [decide_eq_false h2]; simp
set_option maxRecDepth 20000 in
set_option maxHeartbeats 2000000 in
theorem front_any (l m : List ByteArray) (ao bo : Option Addr) (cap cap' : Nat) (w : World) (h : StrsAt w ao l) (h' : StrsAt w bo m) (hn : l.length ≤ 9000000000000000000) (hm : m.length ≤ cap') :
    Calls Tryd.prog 13 #[.slice ao l.length cap, .slice bo m.length cap'] w fun e w' => e = .returned (.bool (decide (l <+: m))) ∧ ∃ n, w' = w.drewN n := by
  rw [prefix_take]
  by_cases hlen : l.length ≤ m.length
  case neg =>
    have q0 : decide ((l.length : Int) ≤ (m.length : Int)) = false := decide_eq_false (by omega)
    rw [decide_eq_false hlen]
    go_enter Tryd.func13, Tryd.ntmps13
    go_wp2_with fail
    go_ret
    exact ⟨rfl, 0, rfl⟩
  have ht : (m.take l.length).length = l.length := by rw [List.length_take]; omega
  have HE := box (equalStrs_any l (m.take l.length) ao bo cap cap' w h (h'.take _) hn (by rw [ht]; omega))
  rw [ht] at HE
  rw [decide_eq_true hlen]
  have q0 : decide ((l.length : Int) ≤ (m.length : Int)) = true := decide_eq_true (by omega)
  have hle : l.length ≤ cap' := by omega
  clear h h' ht
  generalize decide (l = m.take l.length) = R at *
  go_enter Tryd.func13, Tryd.ntmps13
  go_wp2_with fail
  refine HE.out.mono ?_
  rintro e w' ⟨rfl, n, rfl⟩
  go_wp2_with fail
  go_ret
  exact ⟨by simp, n, rfl⟩
end Go.Proofs.YtpeaefeoogcepaaDoor
