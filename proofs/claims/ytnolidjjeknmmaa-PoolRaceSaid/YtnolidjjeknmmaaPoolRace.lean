/- PoolRace is proved for every input: no condition stands ahead of it. -/
import Derived.Test.YtnolidjjeknmmaaLawKit
import Derived.Test.YtnolidjjeknmmaaNumOpen
import Derived.Test.YtnolidjjeknmmaaPoolHits
import Derived.Test.YtnolidjjeknmmaaPoolRaceM
namespace Go.Proofs.Ytnolidjjeknmmaa
open Go.RowKit Go.Lib

def LruY (w : World) (e : Ending) (w' : World) : Prop := ∃ ho hc ko n kc, e = .returned (.tuple #[.slice ho 2 hc, .slice ko n kc, .int .i64 0]) ∧ BoolsAt w' ho [false, true] ∧ Below w.heap.size w w'
theorem lru_y (w : World) (ao : Option Addr) (h : IntsAt w ao [7, 7]) : Calls Try.prog 44 #[.int .i64 1, .slice ao 2 2] w (LruY w) := by
  refine (lru_any 1 [7, 7] ao 2 w h).mono ?_
  intro e w' hp
  obtain ⟨ho, hc, ko, kc, h1, h2, _, _, _, h4⟩ := (show GotOk 2 [false, true] [7] w e w' from hp.ok (by decide))
  exact ⟨ho, hc, ko, _, kc, h1, h2, h4⟩
def GotAny1 (w : World) (e : Ending) (w' : World) : Prop := ∃ hv kv c, e = .returned (.tuple #[hv, kv, .int .i64 c]) ∧ Below w.heap.size w w'
theorem PoolPost.any1 {pick : List Int → Nat → Nat} {seen : List Int → Int → List Int} {size : Int} {refs : List Int} {w w' : World} {e : Ending} (h : PoolPost pick seen size refs w e w') : GotAny1 w e w' := by
  obtain ⟨hb, ⟨_, h1⟩ | ⟨_, hv, kv, h1, _⟩⟩ := h
  · exact ⟨_, _, _, h1, hb⟩
  · exact ⟨_, _, _, h1, hb⟩

set_option maxRecDepth 20000 in
set_option maxHeartbeats 2000000 in
theorem equalBools_same (l : List Bool) (ao bo : Option Addr) (cap cap' : Nat) (w : World) (h : BoolsAt w ao l) (h' : BoolsAt w bo l) (hn : l.length ≤ 9000000000000000000) :
    Calls Try.prog 47 #[.slice ao l.length cap, .slice bo l.length cap'] w fun e w' => e = .returned (.bool true) ∧ ∃ n, w' = w.drewN n := by
  have H := box h; have H' := box h'
  clear h h'
  have q0 : ((l.length : Int) == (l.length : Int)) = true := by simp
  go_enter Try.func47, Try.ntmps47
  go_wp2_with fail
  go_loopw [13] (fun t13 wr => ∃ k n : Nat, wr = w.drewN n ∧ k ≤ l.length ∧ t13 = .int .i64 (k : Int)) (fun t13 _ => l.length - (intOf t13).toNat)
  case atStart => exact ⟨0, 0, rfl, Nat.zero_le _, rfl⟩
  case round =>
    obtain ⟨k, n0, rfl, hk, rfl⟩ := hrel
    by_cases hlt : k < l.length
    · obtain ⟨b, off, rfl, _, hrow⟩ := (H.out.resolve_left (by intro h; rw [h] at hlt; simp at hlt))
      obtain ⟨b', off', rfl, _, hrow'⟩ := (H'.out.resolve_left (by intro h; rw [h] at hlt; simp at hlt))
      have hc0 := hrow k hlt
      have hd0 := hrow' k hlt
      generalize l[k] = a0 at *
      clear hrow hrow'
      have e0 : (a0 == a0) = true := by simp
      have e1 : (a0 != a0) = false := by simp
      go_wp2_with fail
      go_quiet (fail)
      go_wp2_with fail
      go_roundw
      case rel => exact ⟨k + 1, n0 + nq, rfl, hlt, by go_num⟩
      case measure => simp [intOf]; omega
    · go_wp2_with fail
      go_ret
      exact ⟨rfl, n0, rfl⟩

/-- What is reckoned from the second place on. -/
structure RaceNums (N hx hy a b : Nat) : Prop where
  law : ((N : Int) - (hx : Int) - (b : Int)) * ((a : Int) - (b : Int) + 1) ≤ (a : Int) * ((N : Int) - (hy : Int))
  n : N ≤ 2000
  x : hx ≤ N
  y : hy ≤ N
  b1 : 1 ≤ b
  ab : b ≤ a
  a50 : a ≤ 50

theorem RaceNums.wraps {N hx hy a b : Nat} (h : RaceNums N hx hy a b) :
    IntKind.i64.wrap ((N : Int) - (hx : Int)) = (N : Int) - (hx : Int) ∧ IntKind.i64.wrap ((N : Int) - (hx : Int) - (b : Int)) = (N : Int) - (hx : Int) - (b : Int) ∧
    IntKind.i64.wrap ((a : Int) - (b : Int)) = (a : Int) - (b : Int) ∧ IntKind.i64.wrap ((a : Int) - (b : Int) + 1) = (a : Int) - (b : Int) + 1 ∧
    IntKind.i64.wrap (((N : Int) - (hx : Int) - (b : Int)) * ((a : Int) - (b : Int) + 1)) = ((N : Int) - (hx : Int) - (b : Int)) * ((a : Int) - (b : Int) + 1) ∧
    IntKind.i64.wrap ((N : Int) - (hy : Int)) = (N : Int) - (hy : Int) ∧ IntKind.i64.wrap ((a : Int) * ((N : Int) - (hy : Int))) = (a : Int) * ((N : Int) - (hy : Int)) ∧
    decide (((N : Int) - (hx : Int) - (b : Int)) * ((a : Int) - (b : Int) + 1) ≤ (a : Int) * ((N : Int) - (hy : Int))) = true := by
  have hn := h.n; have hX := h.x; have hY := h.y; have hB := h.b1; have hA := h.ab; have h5 := h.a50
  have m1 : ((N : Int) - (hx : Int) - (b : Int)) * ((a : Int) - (b : Int) + 1) ≤ 2000 * 51 ∧ -(2000 * 51) ≤ ((N : Int) - (hx : Int) - (b : Int)) * ((a : Int) - (b : Int) + 1) := by
    have p : (0 : Int) ≤ (a : Int) - (b : Int) + 1 := by omega
    have q1 := Int.mul_le_mul_of_nonneg_right (show (N : Int) - (hx : Int) - (b : Int) ≤ 2000 by omega) p
    have q2 := Int.mul_le_mul_of_nonneg_right (show (-2000 : Int) ≤ (N : Int) - (hx : Int) - (b : Int) by omega) p
    generalize ((N : Int) - (hx : Int) - (b : Int)) * ((a : Int) - (b : Int) + 1) = z at *
    omega
  have m2 : (a : Int) * ((N : Int) - (hy : Int)) ≤ 50 * 2000 ∧ 0 ≤ (a : Int) * ((N : Int) - (hy : Int)) := by
    have q1 := Int.mul_le_mul (show (a : Int) ≤ 50 by omega) (show (N : Int) - (hy : Int) ≤ 2000 by omega) (show (0 : Int) ≤ (N : Int) - (hy : Int) by omega) (show (0 : Int) ≤ 50 by omega)
    have q2 := Int.mul_nonneg (show (0 : Int) ≤ (a : Int) by omega) (show (0 : Int) ≤ (N : Int) - (hy : Int) by omega)
    omega
  refine ⟨IntWalk.i64_in _ (by omega), IntWalk.i64_in _ (by omega), IntWalk.i64_in _ (by omega), IntWalk.i64_in _ (by omega), IntWalk.i64_in _ ?_, IntWalk.i64_in _ (by omega), IntWalk.i64_in _ ?_, decide_eq_true h.law⟩
  · generalize ((N : Int) - (hx : Int) - (b : Int)) * ((a : Int) - (b : Int) + 1) = z at *
    omega
  · generalize (a : Int) * ((N : Int) - (hy : Int)) = z at *
    omega

set_option maxRecDepth 20000 in
set_option maxHeartbeats 8000000 in
theorem poolRace_calls (a0 b0 hi lo : Int) (hab : (a0 < b0 ∧ hi = b0 ∧ lo = a0) ∨ (¬ a0 < b0 ∧ hi = a0 ∧ lo = b0)) (refs : List Int) (ao : Option Addr) (cap : Nat) (w : World) (h : IntsAt w ao refs) (hcap : refs.length ≤ cap) :
    Calls Try.prog 10 #[.int .i64 a0, .int .i64 b0, .slice ao refs.length cap] w fun e w' => e = .returned (.bool true) ∧ Below w.heap.size w w' := by
  have HX := box (fun w ao h => lru_y w ao h)
  have HCb := box (fun W (hb : Below w.heap.size w W) size => best_any size refs ao cap W (h.below hb (Nat.le_refl _)) hcap)
  have HCl := box (fun W (hb : Below w.heap.size w W) size => lru_any size refs ao cap W (h.below hb (Nat.le_refl _)))
  have hle : lo ≤ hi := by omega
  clear h hcap
  go_enter Try.func10, Try.ntmps10
  go_wp2_with fail
  refine (HX.out _ (some ⟨w.heap.size, 0, none⟩) (Or.inr ⟨w.heap.size, 0, rfl, by simp, fun k hk => by
    rw [Nat.zero_add]
    exact (Blk.new w (intVals [7, 7]) 3).cell (intVals_get hk)⟩)).mono ?_
  rintro e w1 ⟨ho, hc, ko, n1, kc, rfl, hat, hb1⟩
  have HB1 := box (((Below.refl _ _).alloc (Nat.le_refl _) _).trans (hb1.mono (by simp)))
  have HAt := box hat
  clear hat hb1
  go_wp2_with fail
  refine (equalBools_same [false, true] ho (some ⟨w1.heap.size, 0, none⟩) hc 2 _ (HAt.out.below ((Below.refl _ _).alloc (Nat.le_refl _) _) (Nat.le_refl _)) (Or.inr ⟨w1.heap.size, 0, rfl, by simp, fun k hk => by
    rw [Nat.zero_add]
    exact (Blk.new w1 (boolVals [false, true]) 4).cell (boolVals_get hk)⟩) (by simp)).mono ?_
  rintro e w3 ⟨rfl, n2, rfl⟩
  have HB3 : Box (Below w.heap.size w ((w1.alloc (.cells #[.bool false, .bool true] 4)).drewN n2)) := ⟨(HB1.out.alloc HB1.out.size _).trans ⟨rfl, rfl, rfl, Nat.le_refl _, fun _ _ => rfl⟩⟩
  generalize (w1.alloc (.cells #[.bool false, .bool true] 4)).drewN n2 = W3 at *
  clear HAt HB1
  have Hle := box hle
  rcases hab with ⟨hl, rfl, rfl⟩ | ⟨hl, rfl, rfl⟩
  case inl =>
    have dlt : decide (lo < hi) = true := decide_eq_true hl
    clear hl
    by_cases hchk : PoolM.check hi refs.length = 0
    case neg =>
      have HL1 := box (fun W hb => (HCl.out W hb hi).mono (fun e w' h => PoolPost.err hchk h))
      have HP1 := box (fun W hb => (HCb.out W hb lo).mono (fun e w' h => PoolPost.any1 h))
      obtain ⟨c, Hcc⟩ : ∃ c, Box (PoolM.check hi refs.length = c) := ⟨_, ⟨rfl⟩⟩
      obtain ⟨N, HN⟩ : ∃ N, Box (refs.length = N) := ⟨_, ⟨rfl⟩⟩
      rw [Hcc.out] at HL1 hchk
      rw [HN.out] at HL1 HP1 ⊢
      have d0 : (c == 0) = false := by simpa using hchk
      have d1 : (c != 0) = true := by simpa using hchk
      clear hchk HCb HCl
      go_wp2_with fail
      refine (HL1.out _ HB3.out).mono ?_
      rintro e w4 ⟨rfl, hb4⟩
      have HB4 := box (below_tr HB3.out hb4)
      clear hb4
      go_wp2_with fail
      refine (HP1.out _ HB4.out).mono ?_
      rintro e w5 ⟨v5, v5', c5, rfl, hb5⟩
      have HB5 := box (below_tr HB4.out hb5)
      clear hb5
      go_wp2_with fail
      go_ret
      exact ⟨rfl, HB5.out⟩
    by_cases hchk2 : PoolM.check lo refs.length = 0
    case neg =>
      have HL1 := box (fun W hb => (HCl.out W hb hi).mono (fun e w' h => PoolPost.ok hchk h))
      have HP1 := box (fun W hb => (HCb.out W hb lo).mono (fun e w' h => PoolPost.err hchk2 h))
      obtain ⟨c, Hcc⟩ : ∃ c, Box (PoolM.check lo refs.length = c) := ⟨_, ⟨rfl⟩⟩
      generalize PoolM.hits PoolM.oldest PoolM.touch hi.toNat refs refs.length = xl at *
      generalize PoolM.kept PoolM.oldest PoolM.touch hi.toNat refs refs.length = kl at *
      obtain ⟨N, HN⟩ : ∃ N, Box (refs.length = N) := ⟨_, ⟨rfl⟩⟩
      rw [Hcc.out] at HP1 hchk2
      rw [HN.out] at HL1 HP1 ⊢
      have d0 : (c == 0) = false := by simpa using hchk2
      have d1 : (c != 0) = true := by simpa using hchk2
      clear hchk hchk2 HCb HCl
      go_wp2_with fail
      refine (HL1.out _ HB3.out).mono ?_
      rintro e w4 ⟨v4, c4, v4', c4', rfl, _, _, _, _, hb4⟩
      have HB4 := box (below_tr HB3.out hb4)
      clear hb4
      go_wp2_with fail
      refine (HP1.out _ HB4.out).mono ?_
      rintro e w5 ⟨rfl, hb5⟩
      have HB5 := box (below_tr HB4.out hb5)
      clear hb5
      go_wp2_with fail
      go_ret
      exact ⟨rfl, HB5.out⟩
    obtain ⟨a, rfl, h1, h50, hn⟩ := PoolM.check_ok hchk
    obtain ⟨b, rfl, h1', h50', _⟩ := PoolM.check_ok hchk2
    have dn : decide (b < a) = true := decide_eq_true (by have := of_decide_eq_true dlt; omega)
    have HL1 := box (fun W hb => (HCl.out W hb _).mono (fun e w' h => PoolPost.ok hchk h))
    have HP1 := box (fun W hb => (HCb.out W hb _).mono (fun e w' h => PoolPost.ok hchk2 h))
    simp only [Int.toNat_natCast] at HL1 HP1
    have hrace := PoolM.race_all h1' (show b ≤ a by omega) refs _ (PoolM.kept_sched (PoolM.rule_best refs) h1' (Nat.le_refl _) refs)
    rw [← PoolM.cnt_hits, ← PoolM.cnt_hits] at hrace
    generalize PoolM.hits (PoolM.farthest refs) PoolM.same b refs refs.length = xy at *
    generalize PoolM.hits PoolM.oldest PoolM.touch a refs refs.length = xx at *
    generalize PoolM.kept (PoolM.farthest refs) PoolM.same b refs refs.length = ky at *
    generalize PoolM.kept PoolM.oldest PoolM.touch a refs refs.length = kx at *
    obtain ⟨N, HN⟩ : ∃ N, Box (refs.length = N) := ⟨_, ⟨rfl⟩⟩
    rw [HN.out] at HL1 HP1 hn hrace ⊢
    have HRace := box hrace
    clear hchk hchk2 HCb HCl hrace
    go_wp2_with fail
    refine (HL1.out _ HB3.out).mono ?_
    rintro e w4 ⟨hox, hcx, kos, kcs, rfl, hx4, hl4, _, _, hb4⟩
    have HB4 := box (below_tr HB3.out hb4)
    have X4 := box hx4; have L4 := box hl4
    clear hb4 hx4 hl4
    go_wp2_with fail
    refine (HP1.out _ HB4.out).mono ?_
    rintro e w5 ⟨hoy, hcy, kot, kct, rfl, hx5, hl5, _, _, hb5⟩
    have HB5 := box (below_tr HB4.out hb5)
    have X4 := box (X4.out.below hb5 (Nat.le_refl _))
    have X5 := box hx5; have L5 := box hl5
    clear hb5 hx5 hl5
    have D4 := box (hits_any xx hox hcx w5 X4.out (by have := L4.out; omega))
    have D5 := box (hits_any xy hoy hcy w5 X5.out (by have := L5.out; omega))
    have hcx1 := List.count_le_length (a := true) (l := xx)
    have hcy1 := List.count_le_length (a := true) (l := xy)
    rw [L4.out] at D4 hcx1
    rw [L5.out] at D5 hcy1
    generalize xx.count true = hx at *
    generalize xy.count true = hy at *
    have HNu : RaceNums N hx hy a b := ⟨HRace.out, hn, hcx1, hcy1, h1', by omega, h50⟩
    obtain ⟨f1, f2, f3, f4, f5, f6, f7, f8⟩ := HNu.wraps
    clear HNu
    go_wp2_with fail
    refine D4.out.mono ?_
    rintro e w8 ⟨rfl, rfl⟩
    go_wp2_with fail
    refine D5.out.mono ?_
    rintro e w8 ⟨rfl, rfl⟩
    go_wp2_with fail
    go_ret
    exact ⟨by simp, HB5.out⟩

  case inr =>
    have dlt : decide (hi < lo) = false := decide_eq_false (by omega)
    clear hl
    by_cases hchk : PoolM.check hi refs.length = 0
    case neg =>
      have HL1 := box (fun W hb => (HCl.out W hb hi).mono (fun e w' h => PoolPost.err hchk h))
      have HP1 := box (fun W hb => (HCb.out W hb lo).mono (fun e w' h => PoolPost.any1 h))
      obtain ⟨c, Hcc⟩ : ∃ c, Box (PoolM.check hi refs.length = c) := ⟨_, ⟨rfl⟩⟩
      obtain ⟨N, HN⟩ : ∃ N, Box (refs.length = N) := ⟨_, ⟨rfl⟩⟩
      rw [Hcc.out] at HL1 hchk
      rw [HN.out] at HL1 HP1 ⊢
      have d0 : (c == 0) = false := by simpa using hchk
      have d1 : (c != 0) = true := by simpa using hchk
      clear hchk HCb HCl
      go_wp2_with fail
      refine (HL1.out _ HB3.out).mono ?_
      rintro e w4 ⟨rfl, hb4⟩
      have HB4 := box (below_tr HB3.out hb4)
      clear hb4
      go_wp2_with fail
      refine (HP1.out _ HB4.out).mono ?_
      rintro e w5 ⟨v5, v5', c5, rfl, hb5⟩
      have HB5 := box (below_tr HB4.out hb5)
      clear hb5
      go_wp2_with fail
      go_ret
      exact ⟨rfl, HB5.out⟩
    by_cases hchk2 : PoolM.check lo refs.length = 0
    case neg =>
      have HL1 := box (fun W hb => (HCl.out W hb hi).mono (fun e w' h => PoolPost.ok hchk h))
      have HP1 := box (fun W hb => (HCb.out W hb lo).mono (fun e w' h => PoolPost.err hchk2 h))
      obtain ⟨c, Hcc⟩ : ∃ c, Box (PoolM.check lo refs.length = c) := ⟨_, ⟨rfl⟩⟩
      generalize PoolM.hits PoolM.oldest PoolM.touch hi.toNat refs refs.length = xl at *
      generalize PoolM.kept PoolM.oldest PoolM.touch hi.toNat refs refs.length = kl at *
      obtain ⟨N, HN⟩ : ∃ N, Box (refs.length = N) := ⟨_, ⟨rfl⟩⟩
      rw [Hcc.out] at HP1 hchk2
      rw [HN.out] at HL1 HP1 ⊢
      have d0 : (c == 0) = false := by simpa using hchk2
      have d1 : (c != 0) = true := by simpa using hchk2
      clear hchk hchk2 HCb HCl
      go_wp2_with fail
      refine (HL1.out _ HB3.out).mono ?_
      rintro e w4 ⟨v4, c4, v4', c4', rfl, _, _, _, _, hb4⟩
      have HB4 := box (below_tr HB3.out hb4)
      clear hb4
      go_wp2_with fail
      refine (HP1.out _ HB4.out).mono ?_
      rintro e w5 ⟨rfl, hb5⟩
      have HB5 := box (below_tr HB4.out hb5)
      clear hb5
      go_wp2_with fail
      go_ret
      exact ⟨rfl, HB5.out⟩
    obtain ⟨a, rfl, h1, h50, hn⟩ := PoolM.check_ok hchk
    obtain ⟨b, rfl, h1', h50', _⟩ := PoolM.check_ok hchk2
    have dn : decide (a < b) = false := decide_eq_false (by have := of_decide_eq_false dlt; omega)
    have HL1 := box (fun W hb => (HCl.out W hb _).mono (fun e w' h => PoolPost.ok hchk h))
    have HP1 := box (fun W hb => (HCb.out W hb _).mono (fun e w' h => PoolPost.ok hchk2 h))
    simp only [Int.toNat_natCast] at HL1 HP1
    have hrace := PoolM.race_all h1' (show b ≤ a by omega) refs _ (PoolM.kept_sched (PoolM.rule_best refs) h1' (Nat.le_refl _) refs)
    rw [← PoolM.cnt_hits, ← PoolM.cnt_hits] at hrace
    generalize PoolM.hits (PoolM.farthest refs) PoolM.same b refs refs.length = xy at *
    generalize PoolM.hits PoolM.oldest PoolM.touch a refs refs.length = xx at *
    generalize PoolM.kept (PoolM.farthest refs) PoolM.same b refs refs.length = ky at *
    generalize PoolM.kept PoolM.oldest PoolM.touch a refs refs.length = kx at *
    obtain ⟨N, HN⟩ : ∃ N, Box (refs.length = N) := ⟨_, ⟨rfl⟩⟩
    rw [HN.out] at HL1 HP1 hn hrace ⊢
    have HRace := box hrace
    clear hchk hchk2 HCb HCl hrace
    go_wp2_with fail
    refine (HL1.out _ HB3.out).mono ?_
    rintro e w4 ⟨hox, hcx, kos, kcs, rfl, hx4, hl4, _, _, hb4⟩
    have HB4 := box (below_tr HB3.out hb4)
    have X4 := box hx4; have L4 := box hl4
    clear hb4 hx4 hl4
    go_wp2_with fail
    refine (HP1.out _ HB4.out).mono ?_
    rintro e w5 ⟨hoy, hcy, kot, kct, rfl, hx5, hl5, _, _, hb5⟩
    have HB5 := box (below_tr HB4.out hb5)
    have X4 := box (X4.out.below hb5 (Nat.le_refl _))
    have X5 := box hx5; have L5 := box hl5
    clear hb5 hx5 hl5
    have D4 := box (hits_any xx hox hcx w5 X4.out (by have := L4.out; omega))
    have D5 := box (hits_any xy hoy hcy w5 X5.out (by have := L5.out; omega))
    have hcx1 := List.count_le_length (a := true) (l := xx)
    have hcy1 := List.count_le_length (a := true) (l := xy)
    rw [L4.out] at D4 hcx1
    rw [L5.out] at D5 hcy1
    generalize xx.count true = hx at *
    generalize xy.count true = hy at *
    have HNu : RaceNums N hx hy a b := ⟨HRace.out, hn, hcx1, hcy1, h1', by omega, h50⟩
    obtain ⟨f1, f2, f3, f4, f5, f6, f7, f8⟩ := HNu.wraps
    clear HNu
    go_wp2_with fail
    refine D4.out.mono ?_
    rintro e w8 ⟨rfl, rfl⟩
    go_wp2_with fail
    refine D5.out.mono ?_
    rintro e w8 ⟨rfl, rfl⟩
    go_wp2_with fail
    go_ret
    exact ⟨by simp, HB5.out⟩


theorem poolRace_all (a b : Int) (refs : List Int) (ao : Option Addr) (cap : Nat) (w : World) (h : IntsAt w ao refs) (hcap : refs.length ≤ cap) :
    Calls Try.prog 10 #[.int .i64 a, .int .i64 b, .slice ao refs.length cap] w fun e w' => e = .returned (.bool true) ∧ Below w.heap.size w w' := by
  by_cases hab : a < b
  · exact poolRace_calls a b b a (Or.inl ⟨hab, rfl, rfl⟩) refs ao cap w h hcap
  · exact poolRace_calls a b a b (Or.inr ⟨hab, rfl, rfl⟩) refs ao cap w h hcap
namespace lawPoolRace
open Go.ChangeShapes Go.WideShapes Go.ChangeAt Go.RowKit Go.ChangeMaps

set_option maxRecDepth 100000 in
theorem lifted (os : Os) (started : os.Started) (H : Type) (enc : TypeId × Value → H) :
    ReturnsInHanded {} Try.checked os 10 .any (Rows.poolRaceSpec.pre6 enc Try.prog Try.f10 [] false) (Rows.poolRaceSpec.post enc Try.prog Try.f10 false true false false) := by
  refine LawKit.law_lifted started (by kernel_rfl) Try.func10 rfl
    (fun ds h => by
      match ds, h with
      | [_, _, _], _ => rfl)
    rfl Try.underlying4 (by intro t ht; exact of_decide_eq_true (p := Try.prog.readableRec t = true ∧ t < Try.prog.types.size) (by revert t ht; decide +kernel))
    (ChangeSpec.witness6 (enc := enc) (C := Try.checked) false ⟨#[], #[.int .i64 0, .int .i64 0, .slice none 0 0], []⟩ 8 (by kernel_rfl) (by kernel_rfl) (by kernel_rfl) (by kernel_rfl)) ?_
  intro W base args ds ps hval hA hsz hlt hfz
  have hA' := hA
  rw [Try.params10] at hA hval
  obtain ⟨v0, vs0, d0, ds0, p0, q0, hargs, rfl, rfl, h0, r0⟩ := trodAll_cons hA
  obtain ⟨v1, vs1, d1, ds1, p1, q1, rfl, rfl, rfl, h1, r1⟩ := trodAll_cons r0
  obtain ⟨v2, vs2, d2, ds2, p2, q2, rfl, rfl, rfl, h2, r2⟩ := trodAll_cons r1
  obtain ⟨rfl, rfl, rfl⟩ := trodAll_nil r2
  obtain rfl : args = #[v0, v1, v2] := by cases args; simp_all
  go_open 0 a
  go_open 1 b
  obtain ⟨ao, cap, l, rfl, hnil, hat, hcap, hcap8, _⟩ := open_numbers (hval 2 _ _ rfl rfl) h2 (Open.weights_bound hsz (j := 2) (by rw [Try.params10]; rfl) rfl)
  refine (poolRace_all a b l ao cap W hat hcap).mono ?_
  rintro e W' ⟨rfl, hb⟩
  exact ⟨rfl, hb⟩

theorem proved : Rows.PoolRaceSaid :=
  OpenClaim.holds_of_wide 10 Try.f10 rfl rfl rfl rfl rfl rfl rfl ⟨rfl, rfl, rfl, rfl, rfl⟩ rfl rfl rfl rfl rfl (by kernel_rfl) Try.func10 (by kernel_rfl)
    (of_decide_eq_true (by kernel_rfl)) (by unfold Func.isWrapper; first | (rw [if_pos (by decide +kernel)]; kernel_rfl) | (rw [if_neg (by decide +kernel)]; exact ⟨rfl, rfl⟩))
    (fun os started H enc _ => lifted os started H enc)
end lawPoolRace
end Go.Proofs.Ytnolidjjeknmmaa
