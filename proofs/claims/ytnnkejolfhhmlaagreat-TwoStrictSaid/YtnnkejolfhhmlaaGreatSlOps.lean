/- IndexFunc, ContainsFunc, Equal over operations: what they compute. -/
import Derived.Test.YtnnkejolfhhmlaaGreatOpsRow
import Derived.BigQuiet
import Derived.Test.YtnnkejolfhhmlaaGreatIntIdx
namespace Go.Proofs.YtnnkejolfhhmlaaGreat
section
open Go.RowKit Go.Lib

set_option maxRecDepth 20000 in
set_option maxHeartbeats 2000000 in
theorem equal_ops (l m : List OpM) (ao bo : Option Addr) (cap cap' : Nat) (w : World) (h : OpsAt w ao l) (h' : OpsAt w bo m) (hn : l.length ≤ 9000000000000) (hm : m.length ≤ 9000000000000) :
    Calls Tryz.prog 7 #[.slice ao l.length cap, .slice bo m.length cap'] w fun e w' => e = .returned (.bool (decide (l = m))) ∧ ∃ n, w' = w.drewN n := by
  have H := box h; have H' := box h'
  clear h h'
  by_cases hl : l.length = m.length
  case neg =>
    have q0 : ((l.length : Int) == (m.length : Int)) = false := by simp; omega
    have q1 : ((l.length : Int) != (m.length : Int)) = true := by simp; omega
    have Hd : Box (decide (l = m) = false) := ⟨by
      rw [decide_eq_false_iff_not]
      rintro rfl; exact hl rfl⟩
    clear hl
    go_enter Tryz.func7, Tryz.ntmps7
    go_wp2_with fail
    go_ret
    exact ⟨by rw [Hd.out]; rfl, 0, rfl⟩
  have Hl := box hl
  rw [← hl]
  clear hl
  have q0 : ((l.length : Int) == (l.length : Int)) = true := by simp
  go_enter Tryz.func7, Tryz.ntmps7
  go_wp2_with fail
  go_loopw [13] (fun t13 wr => ∃ k n : Nat, wr = w.drewN n ∧ k ≤ l.length ∧ t13 = .int .i64 (k : Int) ∧ Box (∀ j (h : j < l.length) (h' : j < m.length), j < k → l[j] = m[j])) (fun t13 _ => l.length - (intOf t13).toNat)
  case atStart => exact ⟨0, 0, rfl, Nat.zero_le _, rfl, ⟨fun j _ _ h => by omega⟩⟩
  case round =>
    obtain ⟨k, n0, rfl, hk, rfl, Hall⟩ := hrel
    by_cases hlt : k < l.length
    · have hlt' : k < m.length := by have := Hl.out; omega
      obtain ⟨b, off, rfl, _, hrow⟩ := (H.out.resolve_left (by intro h; rw [h] at hlt; simp at hlt))
      obtain ⟨b', off', rfl, _, hrow'⟩ := (H'.out.resolve_left (by intro h; rw [h] at hlt'; simp at hlt'))
      obtain ⟨hc0, hc1, hc2⟩ := hrow k hlt
      obtain ⟨hd0, hd1, hd2⟩ := hrow' k hlt'
      have HN : Box (l[k] = m[k] → ∀ j (h : j < l.length) (h' : j < m.length), j < k + 1 → l[j] = m[j]) := ⟨fun he j h h' hj => by
        by_cases e : j = k
        · subst e; exact he
        · exact Hall.out j h h' (by omega)⟩
      have HD : Box (l[k] ≠ m[k] → decide (l = m) = false) := ⟨fun hne => by
        rw [decide_eq_false_iff_not]
        rintro rfl; exact hne rfl⟩
      generalize l[k] = o at *
      generalize m[k] = o' at *
      obtain ⟨a0, a1, a2⟩ := o
      obtain ⟨c0, c1, c2⟩ := o'
      simp only at hc0 hc1 hc2 hd0 hd1 hd2
      clear hrow hrow'
      cases e0 : (a0 == c0) with
      | false =>
        have Hne : Box ((OpM.mk a0 a1 a2) ≠ OpM.mk c0 c1 c2) := ⟨by intro h; injection h with h; subst h; simp at e0⟩
        go_wp2_with fail
        go_quiet (fail)
        go_wp2_with fail
        go_ret
        exact ⟨by rw [HD.out Hne.out]; rfl, n0 + nq, World.drewN_drewN _ _ _⟩
      | true =>
        cases e1 : (a1 == c1) with
        | false =>
          have Hne : Box ((OpM.mk a0 a1 a2) ≠ OpM.mk c0 c1 c2) := ⟨by intro h; injection h with _ h; subst h; simp at e1⟩
          go_wp2_with fail
          go_quiet (fail)
          go_wp2_with fail
          go_ret
          exact ⟨by rw [HD.out Hne.out]; rfl, n0 + nq, World.drewN_drewN _ _ _⟩
        | true =>
          cases e2 : (a2 == c2) with
          | false =>
            have Hne : Box ((OpM.mk a0 a1 a2) ≠ OpM.mk c0 c1 c2) := ⟨by intro h; injection h with _ _ h; subst h; simp at e2⟩
            go_wp2_with fail
            go_quiet (fail)
            go_wp2_with fail
            go_ret
            exact ⟨by rw [HD.out Hne.out]; rfl, n0 + nq, World.drewN_drewN _ _ _⟩
          | true =>
            have Heq : Box ((OpM.mk a0 a1 a2) = OpM.mk c0 c1 c2) := ⟨by
              rw [beq_iff_eq] at e0 e1 e2
              rw [e0, e1, e2]⟩
            go_wp2_with fail
            go_quiet (fail)
            go_wp2_with fail
            go_roundw
            case rel => exact ⟨k + 1, n0 + nq, rfl, hlt, by go_num, ⟨HN.out Heq.out⟩⟩
            case measure => simp [intOf]; omega
    · have Heq : Box (decide (l = m) = true) := ⟨by
        rw [decide_eq_true_eq]
        exact List.ext_getElem Hl.out (fun i h1 h2 => Hall.out i h1 h2 (by omega))⟩
      go_wp2_with fail
      go_ret
      exact ⟨by rw [Heq.out]; rfl, n0, rfl⟩
end
section
open Go.RowKit Go.Lib

/-- Function g, with lb behind, tells p of an operation, in world W; it may lay blocks. -/
def TellsOp (g : Nat) (lb : Array Value) (p : OpM → Bool) (W : World) : Prop := ∀ o : OpM, Calls Tryz.prog g (#[.agg #[.int .i64 o.tx, .int .i64 o.kind, .int .i64 o.item]] ++ lb) W fun e w' => e = .returned (.bool (p o)) ∧ Below W.heap.size W w'
def OpsM.find (p : OpM → Bool) (l : List OpM) : Int := if l.findIdx p < l.length then (l.findIdx p : Int) else -1

set_option maxRecDepth 20000 in
set_option maxHeartbeats 1000000 in
theorem indexFunc_ops (l : List OpM) (ao : Option Addr) (cap g : Nat) (lb : Array Value) (p : OpM → Bool) (w : World) (h : OpsAt w ao l) (hn : l.length ≤ 9000000000000000000) (hp : ∀ W, Below w.heap.size w W → TellsOp g lb p W)
    (eg : ∀ args w, (callFunc g args).run Tryz.prog w = .ok (.enter g args) w) :
    Calls Tryz.prog 51 #[.slice ao l.length cap, .func (.func g) #[] lb] w fun e w' => e = .returned (.int .i64 (OpsM.find p l)) ∧ Below w.heap.size w w' := by
  have H := box h; have Hp := box hp
  clear h hp
  go_enter Tryz.func51, Tryz.ntmps51
  go_wp2_with fail
  go_loopw [8] (fun t8 wr => ∃ k : Nat, k ≤ l.length ∧ t8 = .int .i64 (k : Int) ∧ Box (∀ j (h : j < l.length), j < k → p l[j] = false) ∧ Box (Below w.heap.size w wr)) (fun t8 _ => l.length - (intOf t8).toNat)
  case atStart => exact ⟨0, Nat.zero_le _, rfl, ⟨fun j _ h => by omega⟩, ⟨Below.refl _ _⟩⟩
  case round =>
    obtain ⟨k, hk, rfl, Hall, Hb⟩ := hrel
    by_cases hlt : k < l.length
    · obtain ⟨b, off, rfl, hb, hrow⟩ := ((H.out.below Hb.out (Nat.le_refl _)).resolve_left (by intro h; rw [h] at hlt; simp at hlt))
      obtain ⟨hc0, hc1, hc2⟩ := hrow k hlt
      have Hc := box (Hp.out _ Hb.out l[k])
      have HF : Box (p l[k] = true → OpsM.find p l = (k : Int)) := ⟨fun h => by
        have : l.findIdx p = k := by
          rw [List.findIdx_eq (by omega)]
          exact ⟨h, fun j hj => Hall.out j (by omega) hj⟩
        unfold OpsM.find
        rw [this, if_pos hlt]⟩
      have HN : Box (p l[k] = false → ∀ j (h : j < l.length), j < k + 1 → p l[j] = false) := ⟨fun h j hj h2 => by
        by_cases e : j = k
        · subst e; exact h
        · exact Hall.out j hj (by omega)⟩
      generalize l[k] = o at *
      clear hrow
      go_wp2_with fail
      refine (Hc.out).mono ?_
      rintro e w' ⟨rfl, hb'⟩
      have HB' := box (below_tr Hb.out hb')
      clear hb'
      generalize p o = v at *
      cases v with
      | true =>
        go_wp2_with fail
        go_ret
        exact ⟨by rw [HF.out (by simp)]; rfl, HB'.out⟩
      | false =>
        go_wp2_with fail
        go_roundw
        case rel => exact ⟨k + 1, hlt, by go_num, ⟨HN.out (by simp)⟩, HB'⟩
        case measure => simp [intOf]; omega
    · have HF : Box (OpsM.find p l = -1) := ⟨by
        unfold OpsM.find
        rw [if_neg]
        intro h
        have h2 := List.findIdx_getElem (w := h)
        have := Hall.out _ h (by omega)
        rw [this] at h2; simp at h2⟩
      go_wp2_with fail
      go_ret
      exact ⟨by rw [HF.out]; rfl, Hb.out⟩
theorem OpsM.find_ge (p : OpM → Bool) (l : List OpM) : decide (0 ≤ OpsM.find p l) = l.any p := by
  unfold OpsM.find
  by_cases h : l.findIdx p < l.length
  · have h2 := List.findIdx_getElem (w := h)
    rw [if_pos h, decide_eq_true (by omega)]
    exact (List.any_eq_true.2 ⟨_, List.getElem_mem h, h2⟩).symm
  · rw [if_neg h]
    have h1 : l.findIdx p = l.length := by have := List.findIdx_le_length (p := p) (xs := l); omega
    rw [List.findIdx_eq_length] at h1
    have : l.any p = false := by
      rw [List.any_eq_false]
      intro x hx
      rw [h1 x hx]; simp
    rw [this]; rfl
end
end Go.Proofs.YtnnkejolfhhmlaaGreat
