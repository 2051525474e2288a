/- slices.Index, Contains over operations: what they compute. -/
import Derived.Test.YtnhhjjhhicmfpaaSlOps
import Derived.BigQuiet
namespace Go.Proofs.Ytnhhjjhhicmfpaa
open Go.RowKit Go.Lib

set_option maxRecDepth 20000 in
set_option maxHeartbeats 2000000 in
theorem index_ops (l : List OpM) (v : OpM) (ao : Option Addr) (cap : Nat) (w : World) (h : OpsAt w ao l) (hn : l.length ≤ 9000000000000000000) :
    Calls Try.prog 72 #[.slice ao l.length cap, .agg #[.int .i64 v.tx, .int .i64 v.kind, .int .i64 v.item]] w fun e w' => e = .returned (.int .i64 (OpsM.find (fun o => decide (v = o)) l)) ∧ Below w.heap.size w w' := by
  have H := box h
  obtain ⟨v0, v1, v2⟩ := v
  clear h
  go_enter Try.func72, Try.ntmps72
  go_upto_region 1 with (fail)
  refine name_world (fun W => Below w.heap.size w W ∧ Blk W w.heap.size 25 [.int .i64 v0, .int .i64 v1, .int .i64 v2]) ⟨(Below.refl _ _).alloc (Nat.le_refl _) _, Blk.new _ _ _⟩ ?_
  rintro W ⟨hbW, hkW⟩
  have HW := box hbW; have HK := box hkW
  clear hbW hkW
  generalize HB : w.heap.size = B at *
  have HBB := box HB
  clear HB
  go_wp2_with fail
  go_loopw [8] (fun t8 wr => ∃ k n : Nat, wr = W.drewN n ∧ k ≤ l.length ∧ t8 = .int .i64 (k : Int) ∧ Box (∀ j (h : j < l.length), j < k → decide (OpM.mk v0 v1 v2 = l[j]) = false)) (fun t8 _ => l.length - (intOf t8).toNat)
  case atStart => exact ⟨0, 0, rfl, Nat.zero_le _, rfl, ⟨fun j _ h => by omega⟩⟩
  case round =>
    obtain ⟨k, n0, rfl, hk, rfl, Hall⟩ := hrel
    by_cases hlt : k < l.length
    · obtain ⟨b, off, rfl, _, hrow⟩ := ((H.out.below HW.out (by rw [HBB.out]; exact Nat.le_refl _)).resolve_left (by intro h; rw [h] at hlt; simp at hlt))
      obtain ⟨hc0, hc1, hc2⟩ := hrow k hlt
      have c0 := HK.out.cell (i := 0) rfl
      have c1 := HK.out.cell (i := 1) rfl
      have c2 := HK.out.cell (i := 2) rfl
      have HF : Box (OpM.mk v0 v1 v2 = l[k] → OpsM.find (fun o => decide (OpM.mk v0 v1 v2 = o)) l = (k : Int)) := ⟨fun h => by
        have : l.findIdx (fun o => decide (OpM.mk v0 v1 v2 = o)) = k := by
          rw [List.findIdx_eq (by omega)]
          exact ⟨decide_eq_true h, fun j hj => Hall.out j (by omega) hj⟩
        unfold OpsM.find
        rw [this, if_pos hlt]⟩
      have HN : Box (OpM.mk v0 v1 v2 ≠ l[k] → ∀ j (h : j < l.length), j < k + 1 → decide (OpM.mk v0 v1 v2 = l[j]) = false) := ⟨fun h j hj h2 => by
        by_cases e : j = k
        · subst e; exact decide_eq_false h
        · exact Hall.out j hj (by omega)⟩
      generalize l[k] = o at *
      obtain ⟨a0, a1, a2⟩ := o
      simp only at hc0 hc1 hc2
      clear hrow
      cases e0 : (v0 == a0) with
      | false =>
        have Hne : Box ((OpM.mk v0 v1 v2) ≠ OpM.mk a0 a1 a2) := ⟨by intro h; injection h with h; subst h; simp at e0⟩
        go_wp2_with fail
        go_quiet (fail)
        go_wp2_with fail
        go_roundw
        case rel => exact ⟨k + 1, n0 + nq, rfl, hlt, by go_num, ⟨HN.out Hne.out⟩⟩
        case measure => simp [intOf]; omega
      | true =>
        cases e1 : (v1 == a1) with
        | false =>
          have Hne : Box ((OpM.mk v0 v1 v2) ≠ OpM.mk a0 a1 a2) := ⟨by intro h; injection h with _ h; subst h; simp at e1⟩
          go_wp2_with fail
          go_quiet (fail)
          go_wp2_with fail
          go_roundw
          case rel => exact ⟨k + 1, n0 + nq, rfl, hlt, by go_num, ⟨HN.out Hne.out⟩⟩
          case measure => simp [intOf]; omega
        | true =>
          cases e2 : (v2 == a2) with
          | false =>
            have Hne : Box ((OpM.mk v0 v1 v2) ≠ OpM.mk a0 a1 a2) := ⟨by intro h; injection h with _ _ h; subst h; simp at e2⟩
            go_wp2_with fail
            go_quiet (fail)
            go_wp2_with fail
            go_roundw
            case rel => exact ⟨k + 1, n0 + nq, rfl, hlt, by go_num, ⟨HN.out Hne.out⟩⟩
            case measure => simp [intOf]; omega
          | true =>
            have Heq : Box ((OpM.mk v0 v1 v2) = OpM.mk a0 a1 a2) := ⟨by
              rw [beq_iff_eq] at e0 e1 e2
              rw [e0, e1, e2]⟩
            go_wp2_with fail
            go_quiet (fail)
            go_wp2_with fail
            go_ret
            exact ⟨by rw [HF.out Heq.out]; rfl, by first | exact HW.out.trans ⟨rfl, rfl, rfl, Nat.le_refl _, fun _ _ => rfl⟩ | (rw [HBB.out]; exact HW.out.trans ⟨rfl, rfl, rfl, Nat.le_refl _, fun _ _ => rfl⟩)⟩
    · have HF : Box (OpsM.find (fun o => decide (OpM.mk v0 v1 v2 = o)) l = -1) := ⟨by
        unfold OpsM.find
        rw [if_neg]
        intro h
        have h2 := List.findIdx_getElem (w := h)
        have := Hall.out _ h (by omega)
        rw [this] at h2; simp at h2⟩
      go_wp2_with fail
      go_ret
      exact ⟨by rw [HF.out]; rfl, by first | exact HW.out.trans ⟨rfl, rfl, rfl, Nat.le_refl _, fun _ _ => rfl⟩ | (rw [HBB.out]; exact HW.out.trans ⟨rfl, rfl, rfl, Nat.le_refl _, fun _ _ => rfl⟩)⟩
theorem any_eq_mem (v : OpM) (l : List OpM) : l.any (fun o => decide (v = o)) = decide (v ∈ l) := by
  rw [Bool.eq_iff_iff, List.any_eq_true, decide_eq_true_eq]
  constructor
  · rintro ⟨o, h, e⟩
    rw [of_decide_eq_true e]; exact h
  · intro h; exact ⟨v, h, by simp⟩
theorem contains_ops (l : List OpM) (v : OpM) (ao : Option Addr) (cap : Nat) (w : World) (h : OpsAt w ao l) (hn : l.length ≤ 9000000000000000000) :
    Calls Try.prog 38 #[.slice ao l.length cap, .agg #[.int .i64 v.tx, .int .i64 v.kind, .int .i64 v.item]] w fun e w' => e = .returned (.bool (decide (v ∈ l))) ∧ Below w.heap.size w w' := by
  have HI := box (OpsM.find_ge (fun o => decide (v = o)) l)
  have HC := box (fun W hW => index_ops l v ao cap W (h.below hW (Nat.le_refl _)) hn)
  have HM := box (any_eq_mem v l)
  clear h
  obtain ⟨v0, v1, v2⟩ := v
  go_enter Try.func38, Try.ntmps38
  go_wp2_with fail
  refine (HC.out _ ((Below.refl _ _).alloc (Nat.le_refl _) _)).mono ?_
  rintro e w' ⟨rfl, hb⟩
  have HB := box (below_tr ((Below.refl _ _).alloc (Nat.le_refl _) _) hb)
  clear hb
  generalize OpsM.find (fun o => decide (OpM.mk v0 v1 v2 = o)) l = y at *
  go_wp2_with fail
  go_ret
  exact ⟨by rw [← HM.out, ← HI.out]; rfl, HB.out⟩
end Go.Proofs.Ytnhhjjhhicmfpaa
