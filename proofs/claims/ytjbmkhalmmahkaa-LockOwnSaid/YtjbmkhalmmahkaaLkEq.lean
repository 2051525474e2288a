/- slices.Equal of locks. -/
import Derived.Test.YtjbmkhalmmahkaaLkI
import Derived.Deep.QuietTactic
import Derived.BigQuiet
namespace Go.Proofs.Ytjbmkhalmmahkaa
open Go.RowKit Go.Lib

set_option maxRecDepth 20000 in
set_option maxHeartbeats 2000000 in
theorem equal_lks (l m : List LkM) (ao bo : Option Addr) (cap cap' : Nat) (w : World) (h : LksAt w ao l) (h' : LksAt w bo m) (hn : l.length ≤ 9000000000000) (hm : m.length ≤ 9000000000000) :
    Calls Try.prog 36 #[.slice ao l.length cap, .slice bo m.length cap'] w fun e w' => e = .returned (.bool (decide (l = m))) ∧ ∃ n, w' = w.drewN n := by
  have H := box h; have H' := box h'
  clear h h'
  by_cases hl : l.length = m.length
  case neg =>
    have q0 : ((l.length : Int) == (m.length : Int)) = false := by simp; omega
    have q1 : ((l.length : Int) != (m.length : Int)) = true := by simp; omega
    have Hd : Box (decide (l = m) = false) := ⟨by
      rw [decide_eq_false_iff_not]
      rintro rfl; exact hl rfl⟩
    clear hl
    go_enter Try.func36, Try.ntmps36
    go_wp2_with fail
    go_ret
    exact ⟨by rw [Hd.out]; rfl, 0, rfl⟩
  have Hl := box hl
  rw [← hl]
  clear hl
  have q0 : ((l.length : Int) == (l.length : Int)) = true := by simp
  go_enter Try.func36, Try.ntmps36
  go_wp2_with fail
  go_loopw [13] (fun t13 wr => ∃ k n : Nat, wr = w.drewN n ∧ k ≤ l.length ∧ t13 = .int .i64 (k : Int) ∧ Box (∀ j (h : j < l.length) (h' : j < m.length), j < k → l[j] = m[j])) (fun t13 _ => l.length - (intOf t13).toNat)
  case atStart => exact ⟨0, 0, rfl, Nat.zero_le _, rfl, ⟨fun j _ _ h => by omega⟩⟩
  case round =>
    obtain ⟨k, n0, rfl, hk, rfl, Hall⟩ := hrel
    by_cases hlt : k < l.length
    · have hlt' : k < m.length := by have := Hl.out; omega
      obtain ⟨b, off, rfl, _, hrow⟩ := (H.out.resolve_left (by intro h; rw [h] at hlt; simp at hlt))
      obtain ⟨b', off', rfl, _, hrow'⟩ := (H'.out.resolve_left (by intro h; rw [h] at hlt'; simp at hlt'))
      obtain ⟨hc0, hc1⟩ := hrow k hlt
      obtain ⟨hd0, hd1⟩ := hrow' k hlt'
      have HN : Box (l[k] = m[k] → ∀ j (h : j < l.length) (h' : j < m.length), j < k + 1 → l[j] = m[j]) := ⟨fun he j h h' hj => by
        by_cases e : j = k
        · subst e; exact he
        · exact Hall.out j h h' (by omega)⟩
      have HD : Box (l[k] ≠ m[k] → decide (l = m) = false) := ⟨fun hne => by
        rw [decide_eq_false_iff_not]
        rintro rfl; exact hne rfl⟩
      generalize l[k] = o at *
      generalize m[k] = o' at *
      obtain ⟨a0, a1⟩ := o
      obtain ⟨c0, c1⟩ := o'
      simp only at hc0 hc1 hd0 hd1
      clear hrow hrow'
      cases e0 : (a0 == c0) with
      | false =>
        have Hne : Box ((LkM.mk a0 a1) ≠ LkM.mk c0 c1) := ⟨by intro h; injection h with h; subst h; simp at e0⟩
        go_wp2_with fail
        go_quiet (fail)
        go_wp2_with fail
        go_ret
        exact ⟨by rw [HD.out Hne.out]; rfl, n0 + nq, World.drewN_drewN _ _ _⟩
      | true =>
        cases e1 : (a1 == c1) with
        | false =>
          have Hne : Box ((LkM.mk a0 a1) ≠ LkM.mk c0 c1) := ⟨by intro h; injection h with _ h; subst h; simp at e1⟩
          go_wp2_with fail
          go_quiet (fail)
          go_wp2_with fail
          go_ret
          exact ⟨by rw [HD.out Hne.out]; rfl, n0 + nq, World.drewN_drewN _ _ _⟩
        | true =>
          have Heq : Box ((LkM.mk a0 a1) = LkM.mk c0 c1) := ⟨by
            rw [beq_iff_eq] at e0 e1
            rw [e0, e1]⟩
          go_wp2_with fail
          go_quiet (fail)
          go_wp2_with fail
          go_roundw
          case rel => exact ⟨k + 1, n0 + nq, rfl, hlt, by go_num, ⟨HN.out Heq.out⟩⟩
          case measure => simp [intOf]; omega
    · have Heq : Box (decide (l = m) = true) := ⟨by
        rw [decide_eq_true_eq]
        exact List.ext_getElem Hl.out (fun i h1 h2 => Hall.out i h1 h2 (by omega))⟩
      go_wp2_with fail
      go_ret
      exact ⟨by rw [Heq.out]; rfl, n0, rfl⟩

end Go.Proofs.Ytjbmkhalmmahkaa
