/- run.Check: what it answers. -/
import Derived.Test.YtnnkejolfhhmlaaGreatChkI
namespace Go.Proofs.YtnnkejolfhhmlaaGreat
open Go.RowKit Go.Lib

def RunM.CRel (l : List OpM) (w : World) (t11 : Value) (wr : World) : Prop :=
  ∃ (k : Nat) (ov : Nat → Bool), k ≤ l.length ∧ t11 = .int .i64 (k : Int) ∧ RunM.go (l.drop k) ov = RunM.go l (fun _ => false) ∧ Blk wr w.heap.size 66 (Tab 12 fun i => .bool (ov i)) ∧ Below w.heap.size w wr

theorem RunM.CRel_next {l : List OpM} {w wr : World} {k : Nat} {ov : Nat → Bool} (hk : k < l.length) (hg : RunM.go (l.drop k) ov = RunM.go l (fun _ => false)) (hB : Blk wr w.heap.size 66 (Tab 12 fun i => .bool (ov i))) (hb : Below w.heap.size w wr)
    (h0 : RunM.bad l[k] = 0) (hv : ov l[k].tx.toNat = false) (C : List Value) (T t : Nat) (b : Bool) (ht : l[k].tx = (t : Int)) (hbk : b = decide (3 ≤ l[k].kind)) :
    RunM.CRel l w (.int .i64 ((k : Int) + 1)) ((wr.setCell ⟨w.heap.size, t, none⟩ (.bool b)).alloc (.cells C.toArray T)) := by
  have e : RunM.go (l.drop k) ov = RunM.go (l.drop (k + 1)) (upd ov l[k].tx.toNat (decide (3 ≤ l[k].kind))) := by
    rw [List.drop_eq_getElem_cons hk, RunM.go, if_neg (by rw [h0]; simp), if_neg (by rw [hv]; simp)]
  have et : l[k].tx.toNat = t := by rw [ht]; rfl
  refine ⟨k + 1, upd ov t b, hk, rfl, by rw [← hg, e, et, hbk], ?_, (hb.setCell (Nat.le_refl _) _).alloc (by rw [World.size_setCell]; exact hb.size) _⟩
  have h1 := (hB.tabSet t (.bool b)).alloc (.cells C.toArray T)
  rw [show (fun i => Value.bool (upd ov t b i)) = upd (fun i => .bool (ov i)) t (.bool b) from by funext i; simp only [upd]; split <;> rfl]
  exact h1

set_option maxRecDepth 20000 in
set_option maxHeartbeats 4000000 in
theorem runCheck_any (l : List OpM) (ao : Option Addr) (cap : Nat) (w : World) (h : OpsAt w ao l) (hf : RunM.Fits l) :
    Calls Tryz.prog 24 #[.slice ao l.length cap] w fun e w' => e = .returned (.int .i64 (RunM.check l)) ∧ Below w.heap.size w w' := by
  have H := box h; have Hf := box hf
  have hfl := hf.1
  clear h hf
  by_cases hbig : 200 < l.length
  · have hd : decide ((200 : Int) < (l.length : Int)) = true := by simp; omega
    have HR : Box (RunM.check l = 2) := ⟨by rw [RunM.check, if_pos hbig]⟩
    clear hbig
    go_enter Tryz.func24, Tryz.ntmps24
    go_wp2_with fail
    go_ret
    exact ⟨by rw [HR.out]; rfl, Below.refl _ _⟩
  have hd : decide ((200 : Int) < (l.length : Int)) = false := by simp; omega
  have HR : Box (RunM.check l = RunM.go l (fun _ => false)) := ⟨by rw [RunM.check, if_neg hbig]⟩
  have Hbig := box hbig
  clear hbig
  go_enter Tryz.func24, Tryz.ntmps24
  go_wp2_with fail
  go_loopw [11] (fun t11 wr => RunM.CRel l w t11 wr) (fun t11 _ => l.length - (intOf t11).toNat)
  case atStart => exact ⟨0, fun _ => false, Nat.zero_le _, rfl, rfl, Blk.new w (Tab 12 fun _ => .bool false) _, (Below.refl _ _).alloc (Nat.le_refl _) _⟩
  case round =>
    obtain ⟨k, ov, hk, rfl, hg, hB, hbr⟩ := hrel
    have Hg := box hg; have HB := box hB; have Hbr := box hbr
    have hlt0 := hB.lt
    clear hg hB hbr
    by_cases hlt : k < l.length
    case neg =>
      have HE : Box (RunM.go l (fun _ => false) = 0) := ⟨by rw [← Hg.out, List.drop_of_length_le (by omega)]; rfl⟩
      go_wp2_with fail
      go_ret
      exact ⟨by rw [HR.out, HE.out]; rfl, Hbr.out⟩
    obtain ⟨b, off, rfl, hb, hrow⟩ := ((H.out.below Hbr.out (Nat.le_refl _)).resolve_left (by intro h; rw [h] at hlt; simp at hlt))
    obtain ⟨hc0, hc1, hc2⟩ := hrow k hlt
    have Hnext := box (fun C T t b => RunM.CRel_next hlt Hg.out HB.out Hbr.out (C := C) (T := T) (t := t) (b := b))
    have Hend : Box (∀ n : Int, n ≠ 0 → RunM.bad l[k] = n → RunM.check l = n) := ⟨fun n h1 h2 => by
      rw [HR.out, ← Hg.out, List.drop_eq_getElem_cons hlt, RunM.go, if_pos (by rw [h2]; exact h1), h2]⟩
    have Hend2 : Box (RunM.bad l[k] = 0 → ov l[k].tx.toNat = true → RunM.check l = 4) := ⟨fun h1 h2 => by
      rw [HR.out, ← Hg.out, List.drop_eq_getElem_cons hlt, RunM.go, if_neg (by rw [h1]; simp), if_pos h2]⟩
    have hBW : Box (Below w.heap.size w (wr.alloc (.cells #[.int .i64 l[k].tx, .int .i64 l[k].kind, .int .i64 l[k].item] 30))) := ⟨Hbr.out.alloc Hbr.out.size _⟩
    generalize l[k] = o at *
    obtain ⟨tx, kind, item⟩ := o
    simp only at hc0 hc1 hc2
    clear hrow hb
    by_cases b1 : tx < 0
    · go_wp2_with fail
      go_ret
      exact ⟨by rw [Hend.out 1 (by simp) (by rw [RunM.bad, if_pos (Or.inl b1)])]; rfl, hBW.out⟩
    by_cases b2 : 12 ≤ tx
    · go_wp2_with fail
      go_ret
      exact ⟨by rw [Hend.out 1 (by simp) (by rw [RunM.bad, if_pos (Or.inr (Or.inl b2))])]; rfl, hBW.out⟩
    by_cases b3 : item < 0
    · go_wp2_with fail
      go_ret
      exact ⟨by rw [Hend.out 1 (by simp) (by rw [RunM.bad, if_pos (Or.inr (Or.inr (Or.inl b3)))])]; rfl, hBW.out⟩
    by_cases b4 : 20 ≤ item
    · go_wp2_with fail
      go_ret
      exact ⟨by rw [Hend.out 1 (by simp) (by rw [RunM.bad, if_pos (Or.inr (Or.inr (Or.inr b4)))])]; rfl, hBW.out⟩
    obtain ⟨t, rfl⟩ := Int.eq_ofNat_of_zero_le (show 0 ≤ tx by omega)
    have ht : t < 12 := by omega
    by_cases hkd : kind = 1 ∨ kind = 2 ∨ ((kind = 3 ∨ kind = 4) ∧ item = 0)
    · have h0 : RunM.bad ⟨(t : Int), kind, item⟩ = 0 := by
        rw [RunM.bad, if_neg (by simp only; omega)]
        simp only
        split
        · rfl
        · rw [if_pos (by omega)]
      have hcB := HB.out.tabCell ht
      have hfB := HB.out.frozen t
      have Hov : Box (ov t = true → RunM.check l = 4) := ⟨fun h => Hend2.out h0 h⟩
      have Hnx := box (fun b => Hnext.out [.int .i64 (t : Int), .int .i64 kind, .int .i64 item] 30 t b h0)
      clear h0
      generalize hvv : ov t = v at *
      have Hvv := box hvv
      clear hvv
      cases v with
      | true =>
        rcases hkd with rfl | rfl | ⟨rfl | rfl, rfl⟩ <;>
        · go_wp2_with fail
          go_ret
          exact ⟨by rw [Hov.out (by simp)]; rfl, hBW.out⟩
      | false =>
        rcases hkd with rfl | rfl | ⟨rfl | rfl, rfl⟩ <;>
        · go_wp2_with fail
          go_roundw
          case rel => refine Hnx.out _ Hvv.out (by simp) ?_; simp
          case measure => simp [intOf]; omega
    · have h4 : Box (RunM.check l = 4) := ⟨Hend.out 4 (by simp) (by
        rw [RunM.bad, if_neg (by simp only; omega)]
        simp only
        rw [if_neg (by omega), if_neg (by omega)])⟩
      by_cases h34 : kind = 3 ∨ kind = 4
      · have g0 : (item == 0) = false := by simp; omega
        have g1 : (item != 0) = true := by simp; omega
        clear hkd
        rcases h34 with rfl | rfl <;>
        · go_wp2_with fail
          go_ret
          exact ⟨by rw [h4.out]; rfl, hBW.out⟩
      · have g1 : (kind == 1) = false := by simp; omega
        have g2 : (kind == 2) = false := by simp; omega
        have g3 : (kind == 3) = false := by simp; omega
        have g4 : (kind == 4) = false := by simp; omega
        clear hkd h34
        go_wp2_with fail
        go_ret
        exact ⟨by rw [h4.out]; rfl, hBW.out⟩
end Go.Proofs.YtnnkejolfhhmlaaGreat
