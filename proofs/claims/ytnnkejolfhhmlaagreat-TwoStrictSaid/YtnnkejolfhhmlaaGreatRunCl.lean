/- run.clash, and the function within run.Like. -/
import Derived.Test.YtnnkejolfhhmlaaGreatOpsRow
import Derived.Test.YtnnkejolfhhmlaaGreatChkI
namespace Go.Proofs.YtnnkejolfhhmlaaGreat
open Go.RowKit Go.Lib

set_option maxRecDepth 20000 in
set_option maxHeartbeats 2000000 in
theorem clash_any (a b : OpM) (w : World) : Calls Tryz.prog 52 #[.agg #[.int .i64 a.tx, .int .i64 a.kind, .int .i64 a.item], .agg #[.int .i64 b.tx, .int .i64 b.kind, .int .i64 b.item]] w fun e w' => e = .returned (.bool (RunM.clash a b)) ∧ Below w.heap.size w w' := by
  obtain ⟨a0, a1, a2⟩ := a
  obtain ⟨b0, b1, b2⟩ := b
  have HP : Box (∀ x, RunM.clash ⟨a0, a1, a2⟩ ⟨b0, b1, b2⟩ = x → x = (!(a0 == b0) && decide (a1 < 3) && decide (b1 < 3) && (a2 == b2) && ((a1 == 2) || (b1 == 2)))) := ⟨fun x h => by rw [← h]; rfl⟩
  generalize hx : RunM.clash ⟨a0, a1, a2⟩ ⟨b0, b1, b2⟩ = x at *
  have HX := box (HP.out x rfl)
  clear HP hx
  have q0 : (a0 != b0) = !(a0 == b0) := rfl
  generalize h0 : (a0 == b0) = c0 at *
  generalize h1 : (decide (a1 < 3)) = c1 at *
  generalize h2 : (decide (b1 < 3)) = c2 at *
  generalize h3 : (a2 == b2) = c3 at *
  generalize h4 : (a1 == 2) = c4 at *
  generalize h5 : (b1 == 2) = c5 at *
  have HB := box (((Below.refl w.heap.size w).alloc (Nat.le_refl _) (.cells #[.int .i64 a0, .int .i64 a1, .int .i64 a2] 30)).alloc (by simp) (.cells #[.int .i64 b0, .int .i64 b1, .int .i64 b2] 30))
  cases c0 with
  | true =>
    go_enter Tryz.func52, Tryz.ntmps52
    go_wp2_with fail
    go_ret
    exact ⟨by rw [HX.out]; simp, HB.out⟩
  | false =>
    cases c1 with
    | false =>
      go_enter Tryz.func52, Tryz.ntmps52
      go_wp2_with fail
      go_ret
      exact ⟨by rw [HX.out]; simp, HB.out⟩
    | true =>
      cases c2 with
      | false =>
        go_enter Tryz.func52, Tryz.ntmps52
        go_wp2_with fail
        go_ret
        exact ⟨by rw [HX.out]; simp, HB.out⟩
      | true =>
        cases c3 with
        | false =>
          go_enter Tryz.func52, Tryz.ntmps52
          go_wp2_with fail
          go_ret
          exact ⟨by rw [HX.out]; simp, HB.out⟩
        | true =>
          cases c4 with
          | true =>
            go_enter Tryz.func52, Tryz.ntmps52
            go_wp2_with fail
            go_ret
            exact ⟨by rw [HX.out]; simp, HB.out⟩
          | false =>
            cases c5 with
            | true =>
              go_enter Tryz.func52, Tryz.ntmps52
              go_wp2_with fail
              go_ret
              exact ⟨by rw [HX.out]; simp, HB.out⟩
            | false =>
              go_enter Tryz.func52, Tryz.ntmps52
              go_wp2_with fail
              go_ret
              exact ⟨by rw [HX.out]; simp, HB.out⟩
end Go.Proofs.YtnnkejolfhhmlaaGreat
