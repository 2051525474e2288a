/- slices.Index, Contains over ints: what they compute. -/
import Derived.Test.YtnnkejolfhhmlaaGreatInts
namespace Go.Proofs.YtnnkejolfhhmlaaGreat
open Go.RowKit Go.Lib

def IntsM.idx (l : List Int) (x : Int) : Int := IntsM.find (fun y => x == y) l
set_option maxRecDepth 20000 in
set_option maxHeartbeats 1000000 in
theorem index_ints (l : List Int) (x : Int) (ao : Option Addr) (cap : Nat) (w : World) (h : IntsAt w ao l) (hn : l.length ≤ 9000000000000000000) :
    Calls Tryz.prog 58 #[.slice ao l.length cap, .int .i64 x] w fun e w' => e = .returned (.int .i64 (IntsM.idx l x)) ∧ w = w' := by
  have H := box h
  clear h
  go_enter Tryz.func58, Tryz.ntmps58
  go_wp2_with fail
  go_loop [8] (fun t8 => ∃ k : Nat, k ≤ l.length ∧ t8 = .int .i64 (k : Int) ∧ Box (∀ j (h : j < l.length), j < k → (x == l[j]) = false)) (fun t8 => l.length - (intOf t8).toNat)
  case atStart => exact ⟨0, Nat.zero_le _, rfl, ⟨fun j _ h => by omega⟩⟩
  case round =>
    obtain ⟨k, hk, rfl, Hall⟩ := hrel
    by_cases hlt : k < l.length
    · obtain ⟨b, off, rfl, hb, hrow⟩ := (H.out.resolve_left (by intro h; rw [h] at hlt; simp at hlt))
      have hc := hrow k hlt
      have HF : Box ((x == l[k]) = true → IntsM.idx l x = (k : Int)) := ⟨fun h => by
        have : l.findIdx (fun y => x == y) = k := by
          rw [List.findIdx_eq (by omega)]
          exact ⟨h, fun j hj => Hall.out j (by omega) hj⟩
        unfold IntsM.idx IntsM.find
        rw [this, if_pos hlt]⟩
      have HN : Box ((x == l[k]) = false → ∀ j (h : j < l.length), j < k + 1 → (x == l[j]) = false) := ⟨fun h j hj h2 => by
        by_cases e : j = k
        · subst e; exact h
        · exact Hall.out j hj (by omega)⟩
      generalize l[k] = y at *
      clear hrow
      cases hxy : (x == y) with
      | true =>
        go_wp2_with fail
        go_ret
        exact ⟨by rw [HF.out (by simpa using hxy)]; rfl, rfl⟩
      | false =>
        have HX := box hxy
        go_wp2_with fail
        go_round
        case rel => exact ⟨k + 1, hlt, by go_num, ⟨HN.out HX.out⟩⟩
        case measure => simp [intOf]; omega
    · have HF : Box (IntsM.idx l x = -1) := ⟨by
        unfold IntsM.idx IntsM.find
        rw [if_neg]
        intro h
        have h2 := List.findIdx_getElem (w := h)
        have := Hall.out _ h (by omega)
        rw [this] at h2; simp at h2⟩
      go_wp2_with fail
      go_ret
      exact ⟨by rw [HF.out]; rfl, rfl⟩
theorem IntsM.idx_ge (l : List Int) (x : Int) : decide (0 ≤ IntsM.idx l x) = decide (x ∈ l) := by
  unfold IntsM.idx IntsM.find
  by_cases h : x ∈ l
  · have : l.findIdx (fun y => x == y) < l.length := List.findIdx_lt_length_of_exists ⟨x, h, by simp⟩
    rw [if_pos this, decide_eq_true h, decide_eq_true (by omega)]
  · have : ¬ l.findIdx (fun y => x == y) < l.length := by
      intro h1
      have h2 := List.findIdx_getElem (w := h1)
      simp at h2
      exact h (h2 ▸ List.getElem_mem h1)
    rw [if_neg this, decide_eq_false h]; rfl
theorem contains_ints (l : List Int) (x : Int) (ao : Option Addr) (cap : Nat) (w : World) (h : IntsAt w ao l) (hn : l.length ≤ 9000000000000000000) :
    Calls Tryz.prog 35 #[.slice ao l.length cap, .int .i64 x] w fun e w' => e = .returned (.bool (decide (x ∈ l))) ∧ w = w' := by
  have HC := box (index_ints l x ao cap w h hn)
  have HI := box (IntsM.idx_ge l x)
  clear h
  go_enter Tryz.func35, Tryz.ntmps35
  go_wp2_with fail
  refine HC.out.mono ?_
  rintro e w' ⟨rfl, rfl⟩
  generalize IntsM.idx l x = y at *
  go_wp2_with fail
  go_ret
  exact ⟨by rw [← HI.out]; rfl, rfl⟩

end Go.Proofs.YtnnkejolfhhmlaaGreat
