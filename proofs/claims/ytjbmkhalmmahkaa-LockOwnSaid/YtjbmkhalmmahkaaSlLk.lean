/- IndexFunc, ContainsFunc over locks: what they compute. -/
import Derived.Test.YtjbmkhalmmahkaaLk
import Derived.Deep.DeepMust
namespace Go.Proofs.Ytjbmkhalmmahkaa
open Go.RowKit Go.Lib

/-- Function g, with lb behind, tells p of an edge, in world W; it may lay blocks. -/
def TellsLk (g : Nat) (lb : Array Value) (p : LkM → Bool) (l : List LkM) (W : World) : Prop := ∀ o ∈ l, Calls Try.prog g (#[.agg #[.int .i64 o.tx, .int .i64 o.mode]] ++ lb) W fun e w' => e = .returned (.bool (p o)) ∧ Below W.heap.size W w'
def LksM.find (p : LkM → Bool) (l : List LkM) : Int := if l.findIdx p < l.length then (l.findIdx p : Int) else -1

set_option maxRecDepth 20000 in
set_option maxHeartbeats 1000000 in
theorem indexFunc_lks (l : List LkM) (ao : Option Addr) (cap g : Nat) (lb : Array Value) (p : LkM → Bool) (w : World) (h : LksAt w ao l) (hn : l.length ≤ 9000000000000000000) (hp : ∀ W, Below w.heap.size w W → TellsLk g lb p l W)
    (eg : ∀ args w, (callFunc g args).run Try.prog w = .ok (.enter g args) w) :
    Calls Try.prog 46 #[.slice ao l.length cap, .func (.func g) #[] lb] w fun e w' => e = .returned (.int .i64 (LksM.find p l)) ∧ Below w.heap.size w w' := by
  have H := box h; have Hp := box hp
  clear h hp
  go_enter Try.func46, Try.ntmps46
  go_wp2_with fail
  go_loopw [8] (fun t8 wr => ∃ k : Nat, k ≤ l.length ∧ t8 = .int .i64 (k : Int) ∧ Box (∀ j (h : j < l.length), j < k → p l[j] = false) ∧ Box (Below w.heap.size w wr)) (fun t8 _ => l.length - (RowKit.intOf t8).toNat)
  case atStart => exact ⟨0, Nat.zero_le _, rfl, ⟨fun j _ h => by omega⟩, ⟨Below.refl _ _⟩⟩
  case round =>
    obtain ⟨k, hk, rfl, Hall, Hb⟩ := hrel
    by_cases hlt : k < l.length
    · obtain ⟨b, off, rfl, hb, hrow⟩ := ((H.out.below Hb.out (Nat.le_refl _)).resolve_left (by intro h; rw [h] at hlt; simp at hlt))
      obtain ⟨hc0, hc1⟩ := hrow k hlt
      have Hc := box (Hp.out _ Hb.out l[k] (List.getElem_mem hlt))
      have HF : Box (p l[k] = true → LksM.find p l = (k : Int)) := ⟨fun h => by
        have : l.findIdx p = k := by
          rw [List.findIdx_eq (by omega)]
          exact ⟨h, fun j hj => Hall.out j (by omega) hj⟩
        unfold LksM.find
        rw [this, if_pos hlt]⟩
      have HN : Box (p l[k] = false → ∀ j (h : j < l.length), j < k + 1 → p l[j] = false) := ⟨fun h j hj h2 => by
        by_cases e : j = k
        · subst e; exact h
        · exact Hall.out j hj (by omega)⟩
      generalize l[k] = o at *
      clear hrow
      go_wp2_with fail
      refine (Hc.out).mono ?_
      rintro e w' ⟨rfl, hb'⟩
      have HB' := box (below_tr Hb.out hb')
      clear hb'
      generalize p o = v at *
      cases v with
      | true =>
        go_wp2_with fail
        go_ret
        exact ⟨by rw [HF.out (by simp)]; rfl, HB'.out⟩
      | false =>
        go_wp2_with fail
        go_roundw
        case rel => exact ⟨k + 1, hlt, by go_num, ⟨HN.out (by simp)⟩, HB'⟩
        case measure => simp [RowKit.intOf]; omega
    · have HF : Box (LksM.find p l = -1) := ⟨by
        unfold LksM.find
        rw [if_neg]
        intro h
        have h2 := List.findIdx_getElem (w := h)
        have := Hall.out _ h (by omega)
        rw [this] at h2; simp at h2⟩
      go_wp2_with fail
      go_ret
      exact ⟨by rw [HF.out]; rfl, Hb.out⟩
theorem LksM.find_ge (p : LkM → Bool) (l : List LkM) : decide (0 ≤ LksM.find p l) = l.any p := by
  unfold LksM.find
  by_cases h : l.findIdx p < l.length
  · have h2 := List.findIdx_getElem (w := h)
    rw [if_pos h, decide_eq_true (by omega)]
    exact (List.any_eq_true.2 ⟨_, List.getElem_mem h, h2⟩).symm
  · rw [if_neg h]
    have h1 : l.findIdx p = l.length := by have := List.findIdx_le_length (p := p) (xs := l); omega
    rw [List.findIdx_eq_length] at h1
    have : l.any p = false := by
      rw [List.any_eq_false]
      intro x hx
      rw [h1 x hx]; simp
    rw [this]; rfl
theorem containsFunc_lks (l : List LkM) (ao : Option Addr) (cap g : Nat) (lb : Array Value) (p : LkM → Bool) (w : World) (h : LksAt w ao l) (hn : l.length ≤ 9000000000000000000) (hp : ∀ W, Below w.heap.size w W → TellsLk g lb p l W)
    (eg : ∀ args w, (callFunc g args).run Try.prog w = .ok (.enter g args) w) :
    Calls Try.prog 21 #[.slice ao l.length cap, .func (.func g) #[] lb] w fun e w' => e = .returned (.bool (l.any p)) ∧ Below w.heap.size w w' := by
  have HC := box (indexFunc_lks l ao cap g lb p w h hn hp eg)
  have HI := box (LksM.find_ge p l)
  clear h hp eg
  go_enter Try.func21, Try.ntmps21
  go_wp2_with fail
  refine HC.out.mono ?_
  rintro e w' ⟨rfl, hb⟩
  have HB := box hb
  clear hb
  generalize LksM.find p l = y at *
  go_wp2_with fail
  go_ret
  exact ⟨by rw [← HI.out]; rfl, HB.out⟩

end Go.Proofs.Ytjbmkhalmmahkaa
