/- run.Like: what it answers. -/
import Derived.Test.YtnhhjjhhicmfpaaLikeF
import Derived.Test.YtnhhjjhhicmfpaaPairW
import Derived.Test.YtnhhjjhhicmfpaaPrEq
import Derived.Test.YtnhhjjhhicmfpaaRunCheck
namespace Go.Proofs.Ytnhhjjhhicmfpaa
open Go.RowKit Go.Lib

set_option maxRecDepth 20000 in
set_option maxHeartbeats 4000000 in
theorem like_any (a b : List OpM) (ao bo : Option Addr) (ca cb : Nat) (w : World) (h : OpsAt w ao a) (h' : OpsAt w bo b) (hz : ao = none → ca = 0) (hz' : bo = none → cb = 0) (hf : RunM.Fits a) (hf' : RunM.Fits b) :
    Calls Try.prog 14 #[.slice ao a.length ca, .slice bo b.length cb] w fun e w' => e = .returned (.tuple #[.bool (RunM.like a b), .int .i64 (RunM.likeOk a b)]) ∧ Below w.heap.size w w' := by
  have HA := box h; have HB := box h'; have HZ := box hz; have HZ' := box hz'
  have HCa := box (fun W hb => runCheck_any a ao ca W (h.below hb (Nat.le_refl _)) hf)
  have HCb := box (fun W hb => runCheck_any b bo cb W (h'.below hb (Nat.le_refl _)) hf')
  clear h h' hz hz' hf hf'
  have HL : Box (RunM.like a b = (decide (RunM.check a = 0) && decide (RunM.check b = 0) && RunM.sameTo a b 12 && decide (PairM.sorted (RunM.pairs a) = PairM.sorted (RunM.pairs b)))) := ⟨rfl⟩
  have HO : Box (RunM.likeOk a b = if RunM.check a ≠ 0 then RunM.check a else RunM.check b) := ⟨rfl⟩
  have HKa := box (fun (hc : RunM.check a = 0) => RunM.check_ok hc)
  have HKb := box (fun (hc : RunM.check b = 0) => RunM.check_ok hc)
  obtain ⟨lk, Hlk⟩ : ∃ x, Box (RunM.like a b = x) := ⟨_, ⟨rfl⟩⟩
  obtain ⟨ok, Hok⟩ : ∃ x, Box (RunM.likeOk a b = x) := ⟨_, ⟨rfl⟩⟩
  rw [Hlk.out] at HL ⊢
  rw [Hok.out] at HO ⊢
  obtain ⟨ka, Hka⟩ : ∃ x, Box (RunM.check a = x) := ⟨_, ⟨rfl⟩⟩
  obtain ⟨kb, Hkb⟩ : ∃ x, Box (RunM.check b = x) := ⟨_, ⟨rfl⟩⟩
  rw [Hka.out] at HL HO HCa
  rw [Hkb.out] at HL HO HCb
  go_enter Try.func14, Try.ntmps14
  go_wp2_with fail
  refine (HCa.out _ (Below.refl _ _)).mono ?_
  rintro e w1 ⟨rfl, hb1⟩
  have HB1 := box hb1
  clear hb1
  cases e0 : (ka != 0) with
  | true =>
    have HE : Box (lk = false ∧ ok = ka) := ⟨by
      have : ka ≠ 0 := by simpa using e0
      refine ⟨by rw [HL.out, decide_eq_false this]; rfl, by rw [HO.out, if_pos this]⟩⟩
    go_wp2_with fail
    go_ret2
    exact ⟨by rw [HE.out.1, HE.out.2]; rfl, HB1.out⟩
  | false =>
  obtain rfl : ka = 0 := by simpa using e0
  go_wp2_with fail
  refine (HCb.out _ HB1.out).mono ?_
  rintro e w2 ⟨rfl, hb2⟩
  have HB2 := box (below_tr HB1.out hb2)
  clear hb2 HB1
  cases e1 : (kb != 0) with
  | true =>
    have HE : Box (lk = false ∧ ok = kb) := ⟨by
      have : kb ≠ 0 := by simpa using e1
      refine ⟨by rw [HL.out, decide_eq_false this]; simp, by rw [HO.out, if_neg (by simp)]⟩⟩
    go_wp2_with fail
    go_ret2
    exact ⟨by rw [HE.out.1, HE.out.2]; rfl, HB2.out⟩
  | false =>
  obtain rfl : kb = 0 := by simpa using e1
  have HOk : Box (ok = 0) := ⟨by rw [HO.out]; simp⟩
  have HL2 : Box (lk = (RunM.sameTo a b 12 && decide (PairM.sorted (RunM.pairs a) = PairM.sorted (RunM.pairs b)))) := ⟨by rw [HL.out]; simp⟩
  have hla := (HKa.out Hka.out).1
  have hlb := (HKb.out Hkb.out).1
  have HTa : Box (∀ o ∈ a, 0 ≤ o.tx ∧ o.tx < 12) := ⟨fun o ho => by have := RunM.bad_zero ((HKa.out Hka.out).2.2 o ho); omega⟩
  have HTb : Box (∀ o ∈ b, 0 ≤ o.tx ∧ o.tx < 12) := ⟨fun o ho => by have := RunM.bad_zero ((HKb.out Hkb.out).2.2 o ho); omega⟩
  clear HL HO HKa HKb Hlk Hok Hka Hkb HCa HCb
  go_wp2_with fail
  go_loopw [20] (fun t20 wr => ∃ t : Nat, t ≤ 12 ∧ t20 = .int .i64 (t : Int) ∧ Box (RunM.sameTo a b t = true ∧ Below w.heap.size w wr)) (fun t20 _ => 12 - (RowKit.intOf t20).toNat)
  case atStart => exact ⟨0, by omega, rfl, ⟨rfl, HB2.out⟩⟩
  case round =>
    obtain ⟨t, ht, rfl, HR⟩ := hrel
    by_cases h12 : t < 12
    · have h12i : (t : Int) < 12 := by omega
      go_upto_region 10 with (fail)
      refine name_world (fun W => Below w.heap.size w W ∧ Blk W wr.heap.size 3 [.int .i64 (t : Int)]) ⟨HR.out.2.alloc HR.out.2.size _, Blk.new _ _ _⟩ ?_
      rintro W1 ⟨hw1, hk1⟩
      have HW1 := box hw1; have HK1 := box hk1
      clear hw1 hk1
      generalize wr.heap.size = K at *
      go_wp2_with fail
      refine (clone_ops a ao ca W1 (HA.out.below HW1.out (Nat.le_refl _)) HZ.out (by omega)).mono ?_
      rintro e w3 ⟨⟨v3, rfl, ho3⟩, hb3⟩
      have HD3 := box (likeDel_any a t K v3 W1 w3 HK1.out hla hb3 ho3)
      clear ho3 hb3
      go_wp2_with fail
      refine HD3.out.mono ?_
      rintro e w4 ⟨v4, rfl, ho4, hb4⟩
      have HO4 := box ho4; have HB4 := box hb4
      have HW4 := box (below_tr HW1.out hb4)
      have HK4 := box (HK1.out.after hb4)
      clear ho4 hb4 HD3
      go_wp2_with fail
      refine (clone_ops b bo cb w4 (HB.out.below HW4.out (Nat.le_refl _)) HZ'.out (by omega)).mono ?_
      rintro e w5 ⟨⟨v5, rfl, ho5⟩, hb5⟩
      have HD5 := box (likeDel_any b t K v5 w4 w5 HK4.out hlb hb5 ho5)
      clear ho5 hb5
      go_wp2_with fail
      refine HD5.out.mono ?_
      rintro e w6 ⟨v6, rfl, ho6, hb6⟩
      have HW6 := box (below_tr HW4.out hb6)
      have ho4' := ownsRow_below HO4.out (hb6.mono (Nat.le_refl _))
      obtain ⟨o4, c4, rfl, hz4, hat4, hz5, hz6⟩ := OpsAt.own ho4'
      clear hz4 hz5 hz6
      obtain ⟨o6, c6, rfl, hz4, hat6, hz5, hz6⟩ := OpsAt.own ho6
      clear hz4 hz5 hz6
      have HQ := box (equal_ops (RunM.of a t) (RunM.of b t) o4 o6 c4 c6 w6 hat4 hat6 (by have := RunM.of_le a t; omega) (by have := RunM.of_le b t; omega))
      have HNo := box (fun hd => RunM.sameTo_no (a := a) (b := b) h12 hd)
      have HSu := box (RunM.sameTo_succ a b t)
      clear ho4' hat4 hat6 ho6 hb6 HD5 HO4
      generalize (RunM.of a t).length = n4 at *
      generalize (RunM.of b t).length = n6 at *
      go_wp2_with fail
      refine HQ.out.mono ?_
      rintro e w7 ⟨rfl, n7, rfl⟩
      have HW7 : Box (Below w.heap.size w (w6.drewN n7)) := ⟨below_tr HW6.out ⟨rfl, rfl, rfl, Nat.le_refl _, fun _ _ => rfl⟩⟩
      clear HQ
      generalize decide (RunM.of a t = RunM.of b t) = d at *
      cases d with
      | false =>
        have HE : Box (lk = false) := ⟨by rw [HL2.out, HNo.out rfl]; rfl⟩
        go_wp2_with fail
        go_ret2
        exact ⟨by rw [HE.out, HOk.out]; rfl, HW7.out⟩
      | true =>
        have HE : Box (RunM.sameTo a b (t + 1) = true ∧ Below w.heap.size w (w6.drewN n7)) := ⟨by rw [HSu.out, HR.out.1]; rfl, HW7.out⟩
        go_wp2_with fail
        go_roundw
        case rel => exact ⟨t + 1, by omega, by go_num, HE⟩
        case measure => simp [RowKit.intOf]; omega
    · obtain rfl : t = 12 := by omega
      have HE : Box (lk = decide (PairM.sorted (RunM.pairs a) = PairM.sorted (RunM.pairs b))) := ⟨by rw [HL2.out, HR.out.1]; rfl⟩
      have hlen : ∀ l : List OpM, l.length ≤ 200 → (PairM.sorted (RunM.pairs l)).length ≤ 40000 := fun l hl => by
        rw [(PairM.sorted_perm _).length_eq]
        refine Nat.le_trans (RunM.pairsTo_len l l.length) ?_
        exact Nat.mul_le_mul hl hl
      have hpa := hlen a hla
      have hpb := hlen b hlb
      clear hlen HL2
      go_wp2_with fail
      refine (pairs_any a ao ca wr (HA.out.below HR.out.2 (Nat.le_refl _)) hla HTa.out).mono ?_
      rintro e w3 ⟨⟨v3, rfl, ho3⟩, hb3⟩
      have HO3 := box ho3; have HW3 := box (below_tr HR.out.2 hb3)
      clear ho3 hb3
      go_wp2_with fail
      refine (pairs_any b bo cb w3 (HB.out.below HW3.out (Nat.le_refl _)) hlb HTb.out).mono ?_
      rintro e w4 ⟨⟨v4, rfl, ho4⟩, hb4⟩
      have HW4 := box (below_tr HW3.out hb4)
      have ho3' := ownsRow_below HO3.out hb4
      obtain ⟨o3, c3, rfl, hz4, hat3, hz5, hz6⟩ := PrsAt.own ho3'
      clear hz4 hz5 hz6
      obtain ⟨o4, c4, rfl, hz4, hat4, hz5, hz6⟩ := PrsAt.own ho4
      clear hz4 hz5 hz6
      have HQ := box (equal_prs _ _ o3 o4 c3 c4 w4 hat3 hat4 (by omega) (by omega))
      clear ho3' hat3 hat4 ho4 hb4 HO3 hpa hpb
      rw [← HE.out] at HQ
      generalize (PairM.sorted (RunM.pairs a)).length = n3 at *
      generalize (PairM.sorted (RunM.pairs b)).length = n4 at *
      go_wp2_with fail
      refine HQ.out.mono ?_
      rintro e w7 ⟨rfl, n7, rfl⟩
      go_wp2_with fail
      go_ret2
      exact ⟨by rw [HOk.out]; rfl, below_tr HW4.out ⟨rfl, rfl, rfl, Nat.le_refl _, fun _ _ => rfl⟩⟩
end Go.Proofs.Ytnhhjjhhicmfpaa
