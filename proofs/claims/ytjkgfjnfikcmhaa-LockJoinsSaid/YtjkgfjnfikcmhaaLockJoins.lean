/- LockJoins is proved for every input: modes fit each other both ways, and Join is the least mode above both. -/
import Derived.Test.YtjkgfjnfikcmhaaLock
namespace Go.Proofs.Ytjkgfjnfikcmhaa
open Go.RowKit Go.Lib

theorem LockM.facts : ∀ a ∈ [(1 : Int), 2, 3, 4, 5], ∀ b ∈ [(1 : Int), 2, 3, 4, 5], LockM.joinZ b a = LockM.joinZ a b ∧ LockM.fitB b a = LockM.fitB a b ∧ LockM.joinZ a a = a ∧
    1 ≤ LockM.joinZ a b ∧ LockM.joinZ a b ≤ 5 ∧ ∀ c ∈ [(1 : Int), 2, 3, 4, 5], LockM.fitB (LockM.joinZ a b) c = (LockM.fitB a c && LockM.fitB b c) := by decide +kernel
theorem LockM.mem {a : Int} (h : 1 ≤ a ∧ a ≤ 5) : a ∈ [(1 : Int), 2, 3, 4, 5] := by
  rcases LockM.five h with rfl | rfl | rfl | rfl | rfl <;> simp

theorem join_23 (w : World) : Calls Try.prog 16 #[.int .i64 2, .int .i64 3] w fun e w' => e = .returned (.tuple #[.int .i64 4, .int .i64 0]) ∧ w = w' := join_yes 2 3 w (by decide) (by decide)
theorem fits_33 (w : World) : Calls Try.prog 17 #[.int .i64 3, .int .i64 3] w fun e w' => e = .returned (.tuple #[.bool true, .int .i64 0]) ∧ w = w' := fits_yes 3 3 w (by decide) (by decide)

/-- A contract behind a name: what a call of two ints gives. -/
def LockM.Gives (f : Nat) (a b : Int) (v : Value) : Prop := ∀ w, Calls Try.prog f #[.int .i64 a, .int .i64 b] w fun e w' => e = .returned v ∧ w = w'

theorem LockM.Gives.use {f : Nat} {a b : Int} {v : Value} (h : LockM.Gives f a b v) (w : World) : Calls Try.prog f #[.int .i64 a, .int .i64 b] w fun e w' => e = .returned v ∧ w = w' := h w

set_option maxRecDepth 100000 in
set_option maxHeartbeats 1000000 in
theorem lockJoins_no (a b c : Int) (w : World)
    (h1 : LockM.Gives 16 a b (.tuple #[.int .i64 0, .int .i64 1])) (h2 : LockM.Gives 16 b a (.tuple #[.int .i64 0, .int .i64 1]))
    (h3 : LockM.Gives 17 a b (.tuple #[.bool false, .int .i64 1])) (h4 : LockM.Gives 17 b a (.tuple #[.bool false, .int .i64 1])) :
    Calls Try.prog 5 #[.int .i64 a, .int .i64 b, .int .i64 c] w fun e w' => e = .returned (.bool true) ∧ w = w' := by
  go_enter Try.func5, Try.ntmps5
  go_wp2_with (first | ((with_reducible refine (join_23 _).mono ?_); rintro e w' ⟨rfl, rfl⟩) | ((with_reducible refine (fits_33 _).mono ?_); rintro e w' ⟨rfl, rfl⟩) | ((with_reducible refine (h1.use _).mono ?_); rintro e w' ⟨rfl, rfl⟩) | ((with_reducible refine (h2.use _).mono ?_); rintro e w' ⟨rfl, rfl⟩) | ((with_reducible refine (h3.use _).mono ?_); rintro e w' ⟨rfl, rfl⟩) | ((with_reducible refine (h4.use _).mono ?_); rintro e w' ⟨rfl, rfl⟩))
  go_ret
  exact ⟨rfl, rfl⟩

set_option maxRecDepth 100000 in
set_option maxHeartbeats 1000000 in
theorem lockJoins_yes (a b c j : Int) (x fa fb fj : Bool) (i : Int) (w : World)
    (h1 : LockM.Gives 16 a b (.tuple #[.int .i64 j, .int .i64 0])) (h2 : LockM.Gives 16 b a (.tuple #[.int .i64 j, .int .i64 0]))
    (h3 : LockM.Gives 17 a b (.tuple #[.bool x, .int .i64 0])) (h4 : LockM.Gives 17 b a (.tuple #[.bool x, .int .i64 0]))
    (h5 : LockM.Gives 16 a a (.tuple #[.int .i64 a, .int .i64 0]))
    (h6 : LockM.Gives 17 a c (.tuple #[.bool fa, .int .i64 i])) (h7 : LockM.Gives 17 b c (.tuple #[.bool fb, .int .i64 i]))
    (h8 : LockM.Gives 17 j c (.tuple #[.bool fj, .int .i64 i]))
    (hi : i = 1 ∨ i = 0 ∧ fj = (fa && fb)) :
    Calls Try.prog 5 #[.int .i64 a, .int .i64 b, .int .i64 c] w fun e w' => e = .returned (.bool true) ∧ w = w' := by
  have hx : (x == x) = true := by simp
  rcases hi with rfl | ⟨rfl, rfl⟩
  · go_enter Try.func5, Try.ntmps5
    go_wp2_with (first | ((with_reducible refine (join_23 _).mono ?_); rintro e w' ⟨rfl, rfl⟩) | ((with_reducible refine (fits_33 _).mono ?_); rintro e w' ⟨rfl, rfl⟩) | ((with_reducible refine (h1.use _).mono ?_); rintro e w' ⟨rfl, rfl⟩) | ((with_reducible refine (h2.use _).mono ?_); rintro e w' ⟨rfl, rfl⟩) | ((with_reducible refine (h3.use _).mono ?_); rintro e w' ⟨rfl, rfl⟩) | ((with_reducible refine (h4.use _).mono ?_); rintro e w' ⟨rfl, rfl⟩) | ((with_reducible refine (h5.use _).mono ?_); rintro e w' ⟨rfl, rfl⟩) | ((with_reducible refine (h6.use _).mono ?_); rintro e w' ⟨rfl, rfl⟩) | ((with_reducible refine (h7.use _).mono ?_); rintro e w' ⟨rfl, rfl⟩) | ((with_reducible refine (h8.use _).mono ?_); rintro e w' ⟨rfl, rfl⟩))
    go_ret
    exact ⟨rfl, rfl⟩
  · cases fa <;> cases fb
    all_goals
      go_enter Try.func5, Try.ntmps5
      go_wp2_with (first | ((with_reducible refine (join_23 _).mono ?_); rintro e w' ⟨rfl, rfl⟩) | ((with_reducible refine (fits_33 _).mono ?_); rintro e w' ⟨rfl, rfl⟩) | ((with_reducible refine (h1.use _).mono ?_); rintro e w' ⟨rfl, rfl⟩) | ((with_reducible refine (h2.use _).mono ?_); rintro e w' ⟨rfl, rfl⟩) | ((with_reducible refine (h3.use _).mono ?_); rintro e w' ⟨rfl, rfl⟩) | ((with_reducible refine (h4.use _).mono ?_); rintro e w' ⟨rfl, rfl⟩) | ((with_reducible refine (h5.use _).mono ?_); rintro e w' ⟨rfl, rfl⟩) | ((with_reducible refine (h6.use _).mono ?_); rintro e w' ⟨rfl, rfl⟩) | ((with_reducible refine (h7.use _).mono ?_); rintro e w' ⟨rfl, rfl⟩) | ((with_reducible refine (h8.use _).mono ?_); rintro e w' ⟨rfl, rfl⟩))
      go_ret
      exact ⟨rfl, rfl⟩

theorem lockJoins_calls (a b c : Int) (w : World) :
    Calls Try.prog 5 #[.int .i64 a, .int .i64 b, .int .i64 c] w fun e w' => e = .returned (.bool true) ∧ w = w' := by
  by_cases ha : 1 ≤ a ∧ a ≤ 5
  case neg => exact lockJoins_no a b c w (fun w => join_no a b w (fun h => ha h.1)) (fun w => join_no b a w (fun h => ha h.2)) (fun w => fits_no a b w (fun h => ha h.1)) (fun w => fits_no b a w (fun h => ha h.2))
  by_cases hb : 1 ≤ b ∧ b ≤ 5
  case neg => exact lockJoins_no a b c w (fun w => join_no a b w (fun h => hb h.2)) (fun w => join_no b a w (fun h => hb h.1)) (fun w => fits_no a b w (fun h => hb h.2)) (fun w => fits_no b a w (fun h => hb h.1))
  obtain ⟨f1, f2, f3, f4, f5, f6⟩ := LockM.facts a (LockM.mem ha) b (LockM.mem hb)
  by_cases hc : 1 ≤ c ∧ c ≤ 5
  · exact lockJoins_yes a b c (LockM.joinZ a b) (LockM.fitB a b) (LockM.fitB a c) (LockM.fitB b c) _ 0 w (fun w => join_yes a b w ha hb) (fun w => f1 ▸ join_yes b a w hb ha)
      (fun w => fits_yes a b w ha hb) (fun w => f2 ▸ fits_yes b a w hb ha) (fun w => by have := join_yes a a w ha ha; rwa [f3] at this) (fun w => fits_yes a c w ha hc) (fun w => fits_yes b c w hb hc)
      (fun w => fits_yes _ c w ⟨f4, f5⟩ hc) (.inr ⟨rfl, f6 c (LockM.mem hc)⟩)
  · exact lockJoins_yes a b c (LockM.joinZ a b) (LockM.fitB a b) false false false 1 w (fun w => join_yes a b w ha hb) (fun w => f1 ▸ join_yes b a w hb ha)
      (fun w => fits_yes a b w ha hb) (fun w => f2 ▸ fits_yes b a w hb ha) (fun w => by have := join_yes a a w ha ha; rwa [f3] at this) (fun w => fits_no a c w (fun h => hc h.2)) (fun w => fits_no b c w (fun h => hc h.2))
      (fun w => fits_no _ c w (fun h => hc h.2)) (.inl rfl)
namespace lawLockJoins
open Go.ChangeShapes Go.WideShapes Go.ChangeAt Go.RowKit Go.ChangeMaps

set_option maxRecDepth 100000 in
theorem lifted (os : Os) (started : os.Started) (H : Type) (enc : TypeId × Value → H) :
    ReturnsInHanded {} Try.checked os 5 .any (Rows.lockJoinsSpec.pre6 enc Try.prog Try.f5 [] false) (Rows.lockJoinsSpec.post enc Try.prog Try.f5 false true false false) := by
  refine LawKit.law_lifted started (by kernel_rfl) Try.func5 rfl
    (fun ds h => by
      match ds, h with
      | [_, _, _], _ => rfl)
    rfl Try.underlying4 (by intro t ht; exact of_decide_eq_true (p := Try.prog.readableRec t = true ∧ t < Try.prog.types.size) (by revert t ht; decide +kernel))
    (ChangeSpec.witness6 (enc := enc) (C := Try.checked) false ⟨#[], #[.int .i64 0, .int .i64 0, .int .i64 0], []⟩ 8 (by kernel_rfl) (by kernel_rfl) (by kernel_rfl) (by kernel_rfl)) ?_
  intro W base args ds ps hval hA hsz hlt hfz
  have hA' := hA
  rw [Try.params5] at hA hval
  obtain ⟨v0, vs0, d0, ds0, p0, q0, hargs, rfl, rfl, h0, r0⟩ := trodAll_cons hA
  obtain ⟨v1, vs1, d1, ds1, p1, q1, rfl, rfl, rfl, h1, r1⟩ := trodAll_cons r0
  obtain ⟨v2, vs2, d2, ds2, p2, q2, rfl, rfl, rfl, h2, r2⟩ := trodAll_cons r1
  obtain ⟨rfl, rfl, rfl⟩ := trodAll_nil r2
  obtain rfl : args = #[v0, v1, v2] := by cases args; simp_all
  go_open 0 a
  go_open 1 b
  go_open 2 c
  refine (lockJoins_calls a b c W).mono ?_
  rintro e W' ⟨rfl, rfl⟩
  exact ⟨rfl, Below.refl _ _⟩

theorem proved : Rows.LockJoinsSaid :=
  OpenClaim.holds_of_wide 5 Try.f5 rfl rfl rfl rfl rfl rfl rfl ⟨rfl, rfl, rfl, rfl, rfl⟩ rfl rfl rfl rfl rfl (by kernel_rfl) Try.func5 (by kernel_rfl)
    (of_decide_eq_true (by kernel_rfl)) (by unfold Func.isWrapper; first | (rw [if_pos (by decide +kernel)]; kernel_rfl) | (rw [if_neg (by decide +kernel)]; exact ⟨rfl, rfl⟩))
    (fun os started H enc _ => lifted os started H enc)
end lawLockJoins
end Go.Proofs.Ytjkgfjnfikcmhaa
