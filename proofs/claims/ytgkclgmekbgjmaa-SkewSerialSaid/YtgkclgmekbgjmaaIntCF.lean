/- slices.ContainsFunc over ints. -/
import Derived.Test.YtgkclgmekbgjmaaSlFind
namespace Go.Proofs.Ytgkclgmekbgjmaa
open Go.RowKit Go.Lib

theorem containsFunc_ints (l : List Int) (ao : Option Addr) (cap g : Nat) (lb : Array Value) (p : Int → Bool) (w : World) (h : IntsAt w ao l) (hn : l.length ≤ 9000000000000000000) (hp : Tells g lb p w)
    (eg : ∀ args w, (callFunc g args).run Try.prog w = .ok (.enter g args) w) :
    Calls Try.prog 144 #[.slice ao l.length cap, .func (.func g) #[] lb] w fun e w' => e = .returned (.bool (l.any p)) ∧ w = w' := by
  have HC := box (indexFunc_any l ao cap g lb p w h hn hp eg)
  have HI : Box (decide (0 ≤ IntsM.find p l) = l.any p) := ⟨by
    unfold IntsM.find
    by_cases hf : l.findIdx p < l.length
    · rw [if_pos hf]
      have h1 := List.findIdx_getElem (w := hf)
      rw [List.any_eq_true.2 ⟨_, List.getElem_mem hf, h1⟩]
      simp
    · rw [if_neg hf]
      have h1 : l.findIdx p = l.length := by have := List.findIdx_le_length (p := p) (xs := l); omega
      rw [List.findIdx_eq_length] at h1
      have h2 : l.any p = false := by
        rw [List.any_eq_false]
        intro x hx; rw [h1 x hx]; simp
      rw [h2]; rfl⟩
  clear h hp
  go_enter Try.func144, Try.ntmps144
  go_wp2_with fail
  refine HC.out.mono ?_
  rintro e w' ⟨rfl, rfl⟩
  generalize IntsM.find p l = y at *
  go_wp2_with fail
  go_ret
  exact ⟨by rw [← HI.out]; rfl, rfl⟩

end Go.Proofs.Ytgkclgmekbgjmaa
