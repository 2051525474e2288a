/- lock.Join, lock.isMode, lock.fits: what they compute. -/
import Derived.Test.YtjbmkhalmmahkaaLawKit
import Derived.WalkKit
import Derived.WalkSpells
import Derived.WalkLawsBesides
import Derived.Lib.Hide
namespace Go.Proofs.Ytjbmkhalmmahkaa
open Go.RowKit Go.Lib

def LockM.fitsZ (a : Int) : Int := if a = 1 then 30 else if a = 2 then 6 else if a = 3 then 10 else if a = 4 then 2 else 0
def LockM.fitB (a b : Int) : Bool := (LockM.fitsZ a / 2 ^ b.toNat) % 2 == 1
def LockM.joinZ (a b : Int) : Int := if min a b = 2 ∧ max a b = 3 then 4 else max a b
theorem LockM.five {a : Int} (h : 1 ≤ a ∧ a ≤ 5) : a = 1 ∨ a = 2 ∨ a = 3 ∨ a = 4 ∨ a = 5 := by omega

set_option maxHeartbeats 400000 in
theorem join_yes (a b : Int) (w : World) (ha : 1 ≤ a ∧ a ≤ 5) (hb : 1 ≤ b ∧ b ≤ 5) :
    Calls Try.prog 53 #[.int .i64 a, .int .i64 b] w fun e w' => e = .returned (.tuple #[.int .i64 (LockM.joinZ a b), .int .i64 0]) ∧ w = w' := by
  rcases LockM.five ha with rfl | rfl | rfl | rfl | rfl <;> rcases LockM.five hb with rfl | rfl | rfl | rfl | rfl
  all_goals
    go_enter Try.func53, Try.ntmps53
    go_wp2
    go_ret2
    refine ⟨?_, rfl⟩
    kernel_rfl

set_option maxHeartbeats 400000 in
theorem isMode_any (a : Int) (w : World) :
    Calls Try.prog 20 #[.int .i64 a] w fun e w' => e = .returned (.bool (decide (1 ≤ a ∧ a ≤ 5))) ∧ w = w' := by
  by_cases h : 1 ≤ a
  · have h' : decide (1 ≤ a) = true := by simpa using h
    go_enter Try.func20, Try.ntmps20
    go_wp2
    go_ret
    exact ⟨by simp [h], rfl⟩
  · have h' : decide (1 ≤ a) = false := by simpa using h
    go_enter Try.func20, Try.ntmps20
    go_wp2
    go_ret
    exact ⟨by simp, rfl⟩

theorem isMode_yes (a : Int) (w : World) (h : 1 ≤ a ∧ a ≤ 5) :
    Calls Try.prog 20 #[.int .i64 a] w fun e w' => e = .returned (.bool true) ∧ w = w' :=
  (isMode_any a w).mono fun e w' ⟨h1, h2⟩ => ⟨by rw [h1, decide_eq_true h], h2⟩
theorem isMode_no (a : Int) (w : World) (h : ¬ (1 ≤ a ∧ a ≤ 5)) :
    Calls Try.prog 20 #[.int .i64 a] w fun e w' => e = .returned (.bool false) ∧ w = w' :=
  (isMode_any a w).mono fun e w' ⟨h1, h2⟩ => ⟨by rw [h1, decide_eq_false h], h2⟩

set_option maxHeartbeats 400000 in
theorem fits_in (a : Int) (w : World) (ha : 1 ≤ a ∧ a ≤ 5) :
    Calls Try.prog 35 #[.int .i64 a] w fun e w' => e = .returned (.int .i64 (LockM.fitsZ a)) ∧ w = w' := by
  rcases LockM.five ha with rfl | rfl | rfl | rfl | rfl
  all_goals
    go_enter Try.func35, Try.ntmps35
    go_wp2
    go_ret
    exact ⟨rfl, rfl⟩
end Go.Proofs.Ytjbmkhalmmahkaa
