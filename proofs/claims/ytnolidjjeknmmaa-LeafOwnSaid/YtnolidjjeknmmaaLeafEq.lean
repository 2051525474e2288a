/- slices.Equal over slots: what it computes. -/
import Derived.Test.YtnolidjjeknmmaaLeafGet
namespace Go.Proofs.Ytnolidjjeknmmaa
open Go.RowKit Go.Lib

set_option maxRecDepth 20000 in
set_option maxHeartbeats 2000000 in
theorem equal_some (ls ms : List (Bool × ByteArray)) (b off cap b' off' cap' : Nat) (w : World) (h : SlotsAt w b off ls) (h' : SlotsAt w b' off' ms) (hl : ls.length = ms.length) (hn : ls.length ≤ 41) :
    Calls Try.prog 34 #[.slice (some ⟨b, off, none⟩) ls.length cap, .slice (some ⟨b', off', none⟩) ms.length cap'] w fun e w' => e = .returned (.bool (decide (ls = ms))) ∧ ∃ n, w' = w.drewN n := by
  have H := box h; have H' := box h'
  clear h h'
  rw [← hl]
  have q0 : ((ls.length : Int) == (ls.length : Int)) = true := by simp
  go_enter Try.func34, Try.ntmps34
  go_wp2_with fail
  go_loopw [13] (fun t13 wr => ∃ k n : Nat, wr = w.drewN n ∧ k ≤ ls.length ∧ t13 = .int .i64 (k : Int) ∧ Box (∀ j (h : j < ls.length) (h' : j < ms.length), j < k → ls[j] = ms[j])) (fun t13 _ => ls.length - (intOf t13).toNat)
  case atStart => exact ⟨0, 0, rfl, Nat.zero_le _, rfl, ⟨fun j _ _ h => by omega⟩⟩
  case round =>
    obtain ⟨k, n0, rfl, hk, rfl, Hall⟩ := hrel
    by_cases hlt : k < ls.length
    · obtain ⟨hcu, hct⟩ := H.out k hlt
      obtain ⟨hcu', hct'⟩ := H'.out k (by omega)
      have hlt' : k < ms.length := by omega
      have Hne : Box (∀ x y : ByteArray, x ≠ y → x.toList ≠ y.toList) := ⟨fun x y h e => h (by
        rw [ByteArray.toList_eq, ByteArray.toList_eq] at e
        exact ByteArray.ext (Array.toList_inj.1 e))⟩
      by_cases e1 : ls[k].1 = ms[k].1
      · by_cases e2 : ls[k].2 = ms[k].2
        · have e3 : ls[k].2.toList = ms[k].2.toList := by rw [e2]
          have Hx : Box (ls[k] = ms[k]) := ⟨Prod.ext e1 e2⟩
          clear e2
          go_wp2_with fail
          go_quiet (fail)
          go_wp2_with fail
          go_roundw
          case rel => exact ⟨k + 1, n0 + nq, rfl, hlt, by go_num, ⟨fun j h h' hj => by
            by_cases e : j = k
            · subst e; exact Hx.out
            · exact Hall.out j h h' (by omega)⟩⟩
          case measure => simp [intOf]; omega
        · have e3 := Hne.out _ _ e2
          have Hd : Box (decide (ls = ms) = false) := ⟨by
            rw [decide_eq_false_iff_not]
            rintro rfl; exact e2 rfl⟩
          clear e2
          go_wp2_with fail
          go_quiet (fail)
          go_wp2_with fail
          go_ret
          exact ⟨by rw [Hd.out]; rfl, n0 + nq, World.drewN_drewN _ _ _⟩
      · have Hd : Box (decide (ls = ms) = false) := ⟨by
          rw [decide_eq_false_iff_not]
          rintro rfl; exact e1 rfl⟩
        go_wp2_with fail
        go_quiet (fail)
        go_wp2_with fail
        go_ret
        exact ⟨by rw [Hd.out]; rfl, n0 + nq, World.drewN_drewN _ _ _⟩
    · have hkn : k = ls.length := by omega
      subst hkn
      go_wp2_with fail
      go_ret
      refine ⟨?_, n0, rfl⟩
      have : ls = ms := List.ext_getElem hl (fun i h1 h2 => Hall.out i h1 h2 h1)
      simp [this]
theorem equal_empty (ao bo : Option Addr) (cap cap' : Nat) (w : World) :
    Calls Try.prog 34 #[.slice ao 0 cap, .slice bo 0 cap'] w fun e w' => e = .returned (.bool true) ∧ ∃ n, w' = w.drewN n := by
  go_enter Try.func34, Try.ntmps34
  go_wp2_with fail
  refine wp_loop_rounds 1 ?_; rw [rounds_succ]
  go_wp2_with fail
  go_ret
  exact ⟨rfl, 0, rfl⟩

theorem equal_any (ls ms : List (Bool × ByteArray)) (ao bo : Option Addr) (cap cap' : Nat) (w : World) (h : LeafM.At w ao ls) (h' : LeafM.At w bo ms) (hl : ls.length = ms.length) (hn : ls.length ≤ 41) :
    Calls Try.prog 34 #[.slice ao ls.length cap, .slice bo ms.length cap'] w fun e w' => e = .returned (.bool (decide (ls = ms))) ∧ ∃ n, w' = w.drewN n := by
  rcases h with rfl | ⟨b, off, rfl, _, h2⟩
  · obtain rfl : ms = [] := List.eq_nil_of_length_eq_zero (by simpa using hl.symm)
    exact equal_empty ao bo cap cap' w
  · rcases h' with rfl | ⟨b', off', rfl, _, h2'⟩
    · obtain rfl : ls = [] := List.eq_nil_of_length_eq_zero (by simpa using hl)
      exact equal_empty _ bo cap cap' w
    · exact equal_some ls ms b off cap b' off' cap' w h2 h2' hl hn

end Go.Proofs.Ytnolidjjeknmmaa
