/- slices.Equal over numbers: equal rows. -/
import Derived.Test.YtnnkejolfhhmlaaInts
import Derived.Deep.QuietTactic
import Derived.BigQuiet
namespace Go.Proofs.Ytnnkejolfhhmlaa
open Go.RowKit Go.Lib

set_option maxRecDepth 20000 in
set_option maxHeartbeats 2000000 in
theorem equalInts_same (l : List Int) (ao bo : Option Addr) (cap cap' : Nat) (w : World) (h : IntsAt w ao l) (h' : IntsAt w bo l) (hn : l.length ≤ 9000000000000000000) :
    Calls Try.prog 7 #[.slice ao l.length cap, .slice bo l.length cap'] w fun e w' => e = .returned (.bool true) ∧ ∃ n, w' = w.drewN n := by
  have H := box h; have H' := box h'
  clear h h'
  have q0 : ((l.length : Int) == (l.length : Int)) = true := by simp
  go_enter Try.func7, Try.ntmps7
  go_wp2_with fail
  go_loopw [13] (fun t13 wr => ∃ k n : Nat, wr = w.drewN n ∧ k ≤ l.length ∧ t13 = .int .i64 (k : Int)) (fun t13 _ => l.length - (intOf t13).toNat)
  case atStart => exact ⟨0, 0, rfl, Nat.zero_le _, rfl⟩
  case round =>
    obtain ⟨k, n0, rfl, hk, rfl⟩ := hrel
    by_cases hlt : k < l.length
    · obtain ⟨b, off, rfl, _, hrow⟩ := (H.out.resolve_left (by intro h; rw [h] at hlt; simp at hlt))
      obtain ⟨b', off', rfl, _, hrow'⟩ := (H'.out.resolve_left (by intro h; rw [h] at hlt; simp at hlt))
      have hc0 := hrow k hlt
      have hd0 := hrow' k hlt
      generalize l[k] = a0 at *
      clear hrow hrow'
      have e0 : (a0 == a0) = true := by simp
      have e1 : (a0 != a0) = false := by simp
      go_wp2_with fail
      go_quiet (fail)
      go_wp2_with fail
      go_roundw
      case rel => exact ⟨k + 1, n0 + nq, rfl, hlt, by go_num⟩
      case measure => simp [intOf]; omega
    · go_wp2_with fail
      go_ret
      exact ⟨rfl, n0, rfl⟩

end Go.Proofs.Ytnnkejolfhhmlaa
