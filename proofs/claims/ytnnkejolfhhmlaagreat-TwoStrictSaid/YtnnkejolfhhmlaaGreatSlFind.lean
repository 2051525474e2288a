/- slices.IndexFunc over ints, at a predicate that only reads. -/
import Derived.Test.YtnnkejolfhhmlaaGreatInts
import Derived.Deep.DeepMust
namespace Go.Proofs.YtnnkejolfhhmlaaGreat
open Go.RowKit Go.Lib

/-- Function g, with lb behind, tells p of a number and turns nothing, in world W. -/
def Tells (g : Nat) (lb : Array Value) (p : Int → Bool) (W : World) : Prop := ∀ x : Int, Calls Tryz.prog g (#[.int .i64 x] ++ lb) W fun e w' => e = .returned (.bool (p x)) ∧ W = w'

set_option maxRecDepth 20000 in
set_option maxHeartbeats 1000000 in
theorem indexFunc_any (l : List Int) (ao : Option Addr) (cap g : Nat) (lb : Array Value) (p : Int → Bool) (w : World) (h : IntsAt w ao l) (hn : l.length ≤ 9000000000000000000) (hp : Tells g lb p w)
    (eg : ∀ args w, (callFunc g args).run Tryz.prog w = .ok (.enter g args) w) :
    Calls Tryz.prog 49 #[.slice ao l.length cap, .func (.func g) #[] lb] w fun e w' => e = .returned (.int .i64 (IntsM.find p l)) ∧ w = w' := by
  have H := box h; have Hp := box hp
  clear h hp
  go_enter Tryz.func49, Tryz.ntmps49
  go_wp2_with fail
  go_loop [8] (fun t8 => ∃ k : Nat, k ≤ l.length ∧ t8 = .int .i64 (k : Int) ∧ Box (∀ j (h : j < l.length), j < k → p l[j] = false)) (fun t8 => l.length - (intOf t8).toNat)
  case atStart => exact ⟨0, Nat.zero_le _, rfl, ⟨fun j _ h => by omega⟩⟩
  case round =>
    obtain ⟨k, hk, rfl, Hall⟩ := hrel
    by_cases hlt : k < l.length
    · obtain ⟨b, off, rfl, hb, hrow⟩ := (H.out.resolve_left (by intro h; rw [h] at hlt; simp at hlt))
      have hc := hrow k hlt
      have Hc := box (Hp.out l[k])
      have HF : Box (p l[k] = true → IntsM.find p l = (k : Int)) := ⟨fun h => by
        have : l.findIdx p = k := by
          rw [List.findIdx_eq (by omega)]
          exact ⟨h, fun j hj => Hall.out j (by omega) hj⟩
        unfold IntsM.find
        rw [this, if_pos hlt]⟩
      have HN : Box (p l[k] = false → ∀ j (h : j < l.length), j < k + 1 → p l[j] = false) := ⟨fun h j hj h2 => by
        by_cases e : j = k
        · subst e; exact h
        · exact Hall.out j hj (by omega)⟩
      generalize l[k] = x at *
      clear hrow
      go_wp2_with fail
      refine (Hc.out).mono ?_
      rintro e w' ⟨rfl, rfl⟩
      generalize p x = v at *
      cases v with
      | true =>
        go_wp2_with fail
        go_ret
        exact ⟨by rw [HF.out (by simp)]; rfl, rfl⟩
      | false =>
        go_wp2_with fail
        go_round
        case rel => exact ⟨k + 1, hlt, by go_num, ⟨HN.out (by simp)⟩⟩
        case measure => simp [intOf]; omega
    · have HF : Box (IntsM.find p l = -1) := ⟨by
        unfold IntsM.find
        rw [if_neg]
        intro h
        have h2 := List.findIdx_getElem (w := h)
        have := Hall.out _ h (by omega)
        rw [this] at h2; simp at h2⟩
      go_wp2_with fail
      go_ret
      exact ⟨by rw [HF.out]; rfl, rfl⟩
end Go.Proofs.YtnnkejolfhhmlaaGreat
