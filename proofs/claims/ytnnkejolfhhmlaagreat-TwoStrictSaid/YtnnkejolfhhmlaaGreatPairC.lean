/- slices.Compare over ints; the order that run.pairs sorts by; its sort. -/
import Derived.Test.YtnnkejolfhhmlaaGreatPairM
import Derived.Test.YtnnkejolfhhmlaaGreatInts
import Derived.Test.YtnnkejolfhhmlaaGreatSortOwn
import Derived.Test.YtnnkejolfhhmlaaGreatShPr
namespace Go.Proofs.YtnnkejolfhhmlaaGreat
open Go.RowKit Go.Lib Go.Sort

set_option maxRecDepth 20000 in
set_option maxHeartbeats 2000000 in
theorem compare_ints (x y : List Int) (ao bo : Option Addr) (cap cap' n : Nat) (w : World) (h : IntsAt w ao x) (h' : IntsAt w bo y) (hx : x.length = n) (hy : y.length = n) (hn : n ≤ 100000) :
    Calls Tryz.prog 55 #[.slice ao n cap, .slice bo n cap'] w fun e w' => e = .returned (.int .i64 (lexInt x y)) ∧ w' = w := by
  have hcon := fun a b W' => AnyG.cmp_Compare_int Tryz.cmpInt a b W'
  change ∀ a b W', Calls Tryz.prog 38 _ _ _ at hcon
  have HC := box hcon
  have H := box h; have H' := box h'; have HX := box hx; have HY := box hy
  clear h h' hx hy hcon
  go_enter Tryz.func55, Tryz.ntmps55
  go_wp2_with fail
  go_loopw [11] (fun t11 wr => ∃ k : Nat, wr = w ∧ k ≤ n ∧ t11 = .int .i64 (k : Int) ∧ Box (∀ j (h : j < x.length) (h' : j < y.length), j < k → x[j] = y[j])) (fun t11 _ => n - (RowKit.intOf t11).toNat)
  case atStart => exact ⟨0, by simp, Nat.zero_le _, rfl, ⟨fun j _ _ h => by omega⟩⟩
  case round =>
    obtain ⟨k, rfl, hk, rfl, Hall⟩ := hrel
    by_cases hlt : k < n
    · have hx1 : k < x.length := by rw [HX.out]; exact hlt
      have hy1 : k < y.length := by rw [HY.out]; exact hlt
      obtain ⟨b, off, rfl, _, hrow⟩ := (H.out.resolve_left (by intro h; rw [h] at hx1; simp at hx1))
      obtain ⟨b', off', rfl, _, hrow'⟩ := (H'.out.resolve_left (by intro h; rw [h] at hy1; simp at hy1))
      have hc0 := hrow k hx1
      have hd0 := hrow' k hy1
      have HN : Box (x[k] = y[k] → ∀ j (h : j < x.length) (h' : j < y.length), j < k + 1 → x[j] = y[j]) := ⟨fun he j h h' hj => by
        by_cases e : j = k
        · subst e; exact he
        · exact Hall.out j h h' (by omega)⟩
      have HD : Box (x[k] ≠ y[k] → lexInt x y = Lib.compareInt x[k] y[k]) := ⟨lexInt_at x y k hx1 hy1 Hall.out⟩
      generalize x[k] = o at *
      generalize y[k] = o' at *
      have HZ := box (compareInt_zero (a := o) (b := o'))
      have hlt2 : (k : Int) < (n : Int) := by omega
      have q1 : decide ((n : Int) ≤ (k : Int)) = false := decide_eq_false (by omega)
      clear hrow hrow' hx1 hy1
      go_wp2_with fail
      refine (HC.out o o' _).mono ?_
      rintro e w' ⟨rfl, rfl⟩
      cases hz : (Lib.compareInt o o' == 0) with
      | true =>
        have hoo : Box (o = o') := ⟨HZ.out.1 (by simpa using hz)⟩
        have hz2 : (Lib.compareInt o o' != 0) = false := by rw [bne, hz]; rfl
        generalize Lib.compareInt o o' = r at *
        go_wp2_with fail
        go_roundw
        case rel => exact ⟨k + 1, by simp, hlt, by go_num, ⟨HN.out hoo.out⟩⟩
        case measure => simp [RowKit.intOf]; omega
      | false =>
        have hoo : Box (lexInt x y = Lib.compareInt o o') := ⟨HD.out (fun e => by rw [HZ.out.2 e] at hz; simp at hz)⟩
        have hz2 : (Lib.compareInt o o' != 0) = true := by rw [bne, hz]; rfl
        generalize Lib.compareInt o o' = r at *
        go_wp2_with fail
        go_ret
        exact ⟨by rw [hoo.out]; rfl, by simp⟩
    · have hkn : Box (lexInt x y = 0) := ⟨by
        have : x = y := List.ext_getElem (by rw [HX.out, HY.out]) (fun i h1 h2 => Hall.out i h1 h2 (by rw [HX.out] at h1; omega))
        rw [this]; exact lexInt_eq y⟩
      go_wp2_with fail
      go_ret
      exact ⟨by rw [hkn.out]; rfl, by simp⟩
end Go.Proofs.YtnnkejolfhhmlaaGreat
