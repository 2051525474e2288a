/- quirref.Rest: what it computes. -/
import Derived.Test.YtgkclgmekbgjmaaHeap
namespace Go.Proofs.Ytgkclgmekbgjmaa
open Go.RowKit Go.Lib

set_option maxRecDepth 20000 in
set_option maxHeartbeats 1000000 in
theorem rest_any (x : Int) (n : Nat) (w : World) (h1 : 1 ≤ n) (h2 : (n : Int) ≤ 1000000000) :
    Calls Try.prog 26 #[.int .i64 x, .int .i64 (n : Int)] w fun e w' => e = .returned (.int .i64 (((x % (n : Int)).toNat : Nat) : Int)) ∧ w = w' := by
  have g1 : decide ((n : Int) ≤ 0) = false := by simp; omega
  have g2 : ((n : Int) == 0) = false := by simp; omega
  have hb := Int.tmod_lt_of_pos x (show (0 : Int) < n by omega)
  have hb2 : -(n : Int) < x.tmod n := Int.lt_tmod_of_pos x (show (0 : Int) < n by omega)
  have key : (x.tmod n + n) % n = (((x % (n : Int)).toNat : Nat) : Int) := by
    have h0 : 0 ≤ x % (n : Int) := Int.emod_nonneg _ (by omega)
    rw [Int.add_emod_right, Int.toNat_of_nonneg h0]
    rw [Int.tmod_eq_emod]
    split
    · simp
    · rw [Int.sub_emod]; simp
  have Key := box key
  clear key
  go_enter Try.func26, Try.ntmps26
  go_wp2_with fail
  go_ret
  exact ⟨congrArg (fun x => Ending.returned (.int .i64 x)) Key.out, rfl⟩
end Go.Proofs.Ytgkclgmekbgjmaa
