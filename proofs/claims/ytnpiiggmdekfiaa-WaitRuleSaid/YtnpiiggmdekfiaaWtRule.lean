/- wait.Rule: what it answers. -/
import Derived.Test.YtnpiiggmdekfiaaGrB
import Derived.WalkKit
namespace Go.Proofs.Ytnpiiggmdekfiaa
open Go.RowKit Go.Lib

def WaitM.res (r a b : Int) : Int × Int := if r ≠ 1 ∧ r ≠ 2 then (0, 1) else if a = b then (0, 4) else if r = 1 then (if a < b then (1, 0) else (2, 0)) else (if a < b then (3, 0) else (1, 0))

set_option maxRecDepth 20000 in
set_option maxHeartbeats 2000000 in
theorem waitRule_any (r a b : Int) (w : World) :
    Calls Try.prog 38 #[.int .i64 r, .int .i64 a, .int .i64 b] w fun e w' => e = .returned (.tuple #[.int .i64 (WaitM.res r a b).1, .int .i64 (WaitM.res r a b).2]) ∧ w = w' := by
  have HR := box (show WaitM.res r a b = if r ≠ 1 ∧ r ≠ 2 then (0, 1) else if a = b then (0, 4) else if r = 1 then (if a < b then (1, 0) else (2, 0)) else (if a < b then (3, 0) else (1, 0)) from rfl)
  obtain ⟨x, HX⟩ : ∃ x, Box (WaitM.res r a b = x) := ⟨_, ⟨rfl⟩⟩
  rw [HX.out] at HR ⊢
  cases d1 : (r == 1) with
  | true =>
    obtain rfl : r = 1 := by simpa using d1
    cases d2 : (a == b) with
    | true =>
      have hx : x = (0, 4) := by rw [HR.out, if_neg (by decide), if_pos (by simpa using d2)]
      subst hx
      go_enter Try.func38, Try.ntmps38
      go_wp2_with fail
      go_ret2
      exact ⟨rfl, rfl⟩
    | false =>
      have hne : ¬ a = b := by simpa using d2
      cases d3 : decide (a < b) with
      | true =>
        have hx : x = (1, 0) := by rw [HR.out, if_neg (by decide), if_neg hne, if_pos rfl, if_pos (of_decide_eq_true d3)]
        subst hx
        clear hne
        go_enter Try.func38, Try.ntmps38
        go_wp2_with fail
        go_ret2
        exact ⟨rfl, rfl⟩
      | false =>
        have hx : x = (2, 0) := by rw [HR.out, if_neg (by decide), if_neg hne, if_pos rfl, if_neg (of_decide_eq_false d3)]
        subst hx
        clear hne
        go_enter Try.func38, Try.ntmps38
        go_wp2_with fail
        go_ret2
        exact ⟨rfl, rfl⟩
  | false =>
    have hr1 : ¬ r = 1 := by simpa using d1
    have d1' : (r != 1) = true := by simpa using d1
    cases d4 : (r == 2) with
    | false =>
      have d4' : (r != 2) = true := by simpa using d4
      have hr2 : ¬ r = 2 := by simpa using d4
      have hx : x = (0, 1) := by rw [HR.out, if_pos ⟨hr1, hr2⟩]
      subst hx
      clear hr1 hr2
      go_enter Try.func38, Try.ntmps38
      go_wp2_with fail
      go_ret2
      exact ⟨rfl, rfl⟩
    | true =>
      obtain rfl : r = 2 := by simpa using d4
      clear d1' hr1
      cases d2 : (a == b) with
      | true =>
        have hx : x = (0, 4) := by rw [HR.out, if_neg (by decide), if_pos (by simpa using d2)]
        subst hx
        go_enter Try.func38, Try.ntmps38
        go_wp2_with fail
        go_ret2
        exact ⟨rfl, rfl⟩
      | false =>
        have hne : ¬ a = b := by simpa using d2
        cases d3 : decide (a < b) with
        | true =>
          have hx : x = (3, 0) := by rw [HR.out, if_neg (by decide), if_neg hne, if_neg (by decide), if_pos (of_decide_eq_true d3)]
          subst hx
          clear hne
          go_enter Try.func38, Try.ntmps38
          go_wp2_with fail
          go_ret2
          exact ⟨rfl, rfl⟩
        | false =>
          have hx : x = (1, 0) := by rw [HR.out, if_neg (by decide), if_neg hne, if_neg (by decide), if_neg (of_decide_eq_false d3)]
          subst hx
          clear hne
          go_enter Try.func38, Try.ntmps38
          go_wp2_with fail
          go_ret2
          exact ⟨rfl, rfl⟩
end Go.Proofs.Ytnpiiggmdekfiaa
