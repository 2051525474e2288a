/- slices.Equal of blocks; append. -/
import Derived.Test.YtfmgncfikaefhaaBudC
import Derived.Deep.QuietTactic
namespace Go.Proofs.Ytfmgncfikaefhaa
open Go.RowKit Go.Lib

set_option maxRecDepth 20000 in
set_option maxHeartbeats 2000000 in
theorem equal_bks (l m : List BkM) (ao bo : Option Addr) (cap cap' : Nat) (w : World) (h : BksAt w ao l) (h' : BksAt w bo m) (hn : l.length ≤ 9000000000000) (hm : m.length ≤ 9000000000000) :
    Calls Try.prog 36 #[.slice ao l.length cap, .slice bo m.length cap'] w fun e w' => e = .returned (.bool (decide (l = m))) ∧ ∃ n, w' = w.drewN n := by
  have H := box h; have H' := box h'
  clear h h'
  by_cases hl : l.length = m.length
  case neg =>
    have q0 : ((l.length : Int) == (m.length : Int)) = false := by simp; omega
    have q1 : ((l.length : Int) != (m.length : Int)) = true := by simp; omega
    have Hd : Box (decide (l = m) = false) := ⟨by
      rw [decide_eq_false_iff_not]
      rintro rfl; exact hl rfl⟩
    clear hl
    go_enter Try.func36, Try.ntmps36
    go_wp2_with fail
    go_ret
    exact ⟨by rw [Hd.out]; rfl, 0, rfl⟩
  have Hl := box hl
  rw [← hl]
  clear hl
  have q0 : ((l.length : Int) == (l.length : Int)) = true := by simp
  go_enter Try.func36, Try.ntmps36
  go_wp2_with fail
  go_loopw [13] (fun t13 wr => ∃ k n : Nat, wr = w.drewN n ∧ k ≤ l.length ∧ t13 = .int .i64 (k : Int) ∧ Box (∀ j (h : j < l.length) (h' : j < m.length), j < k → l[j] = m[j])) (fun t13 _ => l.length - (intOf t13).toNat)
  case atStart => exact ⟨0, 0, rfl, Nat.zero_le _, rfl, ⟨fun j _ _ h => by omega⟩⟩
  case round =>
    obtain ⟨k, n0, rfl, hk, rfl, Hall⟩ := hrel
    by_cases hlt : k < l.length
    · have hlt' : k < m.length := by have := Hl.out; omega
      obtain ⟨b, off, rfl, _, hrow⟩ := (H.out.resolve_left (by intro h; rw [h] at hlt; simp at hlt))
      obtain ⟨b', off', rfl, _, hrow'⟩ := (H'.out.resolve_left (by intro h; rw [h] at hlt'; simp at hlt'))
      obtain ⟨hc0, hc1⟩ := hrow k hlt
      obtain ⟨hd0, hd1⟩ := hrow' k hlt'
      have HN : Box (l[k] = m[k] → ∀ j (h : j < l.length) (h' : j < m.length), j < k + 1 → l[j] = m[j]) := ⟨fun he j h h' hj => by
        by_cases e : j = k
        · subst e; exact he
        · exact Hall.out j h h' (by omega)⟩
      have HD : Box (l[k] ≠ m[k] → decide (l = m) = false) := ⟨fun hne => by
        rw [decide_eq_false_iff_not]
        rintro rfl; exact hne rfl⟩
      generalize l[k] = o at *
      generalize m[k] = o' at *
      obtain ⟨a0, a1⟩ := o
      obtain ⟨c0, c1⟩ := o'
      simp only at hc0 hc1 hd0 hd1
      clear hrow hrow'
      cases e0 : (a0 == c0) with
      | false =>
        have Hne : Box ((BkM.mk a0 a1) ≠ BkM.mk c0 c1) := ⟨by intro h; injection h with h; subst h; simp at e0⟩
        go_wp2_with fail
        go_quiet (fail)
        go_wp2_with fail
        go_ret
        exact ⟨by rw [HD.out Hne.out]; rfl, n0 + nq, World.drewN_drewN _ _ _⟩
      | true =>
        cases e1 : (a1 == c1) with
        | false =>
          have Hne : Box ((BkM.mk a0 a1) ≠ BkM.mk c0 c1) := ⟨by intro h; injection h with _ h; subst h; simp at e1⟩
          go_wp2_with fail
          go_quiet (fail)
          go_wp2_with fail
          go_ret
          exact ⟨by rw [HD.out Hne.out]; rfl, n0 + nq, World.drewN_drewN _ _ _⟩
        | true =>
          have Heq : Box ((BkM.mk a0 a1) = BkM.mk c0 c1) := ⟨by
            rw [beq_iff_eq] at e0 e1
            rw [e0, e1]⟩
          go_wp2_with fail
          go_quiet (fail)
          go_wp2_with fail
          go_roundw
          case rel => exact ⟨k + 1, n0 + nq, rfl, hlt, by go_num, ⟨HN.out Heq.out⟩⟩
          case measure => simp [intOf]; omega
    · have Heq : Box (decide (l = m) = true) := ⟨by
        rw [decide_eq_true_eq]
        exact List.ext_getElem Hl.out (fun i h1 h2 => Hall.out i h1 h2 (by omega))⟩
      go_wp2_with fail
      go_ret
      exact ⟨by rw [Heq.out]; rfl, n0, rfl⟩

/-- append(own row, blocks...), the blocks where they may. -/
theorem wpList_append_bks {w : World} {ops : Array Oper} {rest : List Oper} {o : Oper} {a : Act} {Q : Exit → Act → World → Prop} (hgd : o.guard = none) (s x : Operand)
    (ho : o.op = .call { callee := .builtin .append, args := #[s, x], argTypes := #[67, 67] }) (base : Nat) (v : Value) (l : List BkM) (hs : a.eval s = v) (hown : w.ownsRow base 73 2 v l.length (bkVals l))
    (ao : Option Addr) (m : List BkM) (cap : Nat) (hx : a.eval x = .slice ao m.length cap) (hat : BksAt w ao m) (hnil : ao = none → cap = 0) (h63 : l.length + m.length ≤ 8000000000) (hbase : base ≤ w.heap.size)
    (h : ∀ v' w', w'.ownsRow base 73 2 v' (l ++ m).length (bkVals (l ++ m)) → w.grownBy w' v.ownBlock → wpList Try.prog ops Q rest (a.put o.dst v') w') : wpList Try.prog ops Q (o :: rest) a w := by
  obtain ⟨i0, hi0, hz0, hz1, hz2⟩ := info_parts Try.infoBk
  cases ao with
  | none =>
    obtain rfl := hnil rfl
    have hfs : m = [] := hat.resolve_right (by rintro ⟨b, off, h, _⟩; simp at h)
    subst hfs
    refine wpList_append_own_none hgd s x 67 ho base 73 i0 2 Try.underlying67 hi0 v l.length (bkVals l) hs hown hx ?_
    refine h v w (by rw [List.append_nil]; exact hown) ⟨rfl, rfl, rfl, Nat.le_refl _, fun _ _ _ => rfl⟩
  | some ad =>
    have hcs : ∀ j u, (bkVals m)[j]? = some u → w.cell? (ad.add j) = some u := by
      intro j u hu
      rcases hat with rfl | ⟨b, off, h1, h2, h3⟩
      · simp [bkVals] at hu
      · simp only [Option.some.injEq] at h1
        subst h1
        have hj : j < m.length * 2 := by
          have := (List.getElem?_eq_some_iff.1 hu).1
          rwa [bkVals_len] at this
        obtain ⟨c0, c1⟩ := h3 (j / 2) (by omega)
        obtain ⟨d0, d1⟩ := bkVals_at m (j / 2) (by omega)
        rw [Addr.add_lit]
        rcases Nat.mod_two_eq_zero_or_one j with hm | hm
        · have e : j / 2 * 2 = j := by omega
          rw [e] at c0 d0
          rw [c0]; rw [d0] at hu; exact hu
        · have e : j / 2 * 2 + 1 = j := by omega
          rw [e] at d1
          have e2 : off + j / 2 * 2 + 1 = off + j := by omega
          rw [e2] at c1
          rw [c1]; rw [d1] at hu; exact hu
    refine wpList_append_own w hgd s x 67 ho base 73 i0 (.agg #[.int .i64 0, .int .i64 0]) 2 16 Try.underlying67 hi0 hz0 hz1 hz2 rfl (by decide) v l.length (bkVals l) hs hown ad m.length cap (bkVals m) hx (bkVals_len m) hcs (bkVals_one m) (by unfold maxLen; omega) (by omega) hbase ?_
    intro v' w' h1 h2 _
    refine h v' w' ?_ h2
    rw [List.length_append, bkVals_append]
    exact h1

end Go.Proofs.Ytfmgncfikaefhaa
