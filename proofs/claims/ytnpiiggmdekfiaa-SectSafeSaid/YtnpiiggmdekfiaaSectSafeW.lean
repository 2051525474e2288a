/- SectSafe's walk. -/
import Derived.Test.YtnpiiggmdekfiaaLawKit
import Derived.Test.YtnpiiggmdekfiaaSectL
import Derived.Test.YtnpiiggmdekfiaaRest
import Derived.Test.YtnpiiggmdekfiaaDeedOpen
namespace Go.Proofs.Ytnpiiggmdekfiaa
open Go.RowKit Go.Lib

set_option maxRecDepth 20000 in
set_option maxHeartbeats 8000000 in
theorem sectSafe_calls (L : List DeedL) (ao : Option Addr) (cap : Nat) (ks : List Bool) (ko : Option Addr) (kc : Nat) (w : World) (h : DeedsAt w ao L) (hk : FlagsAt w ko ks) (hcap : L.length ≤ cap) (hlen : cap * 56 ≤ 140737488355328) :
    Calls Try.prog 3 #[.slice ao L.length cap, .slice ko ks.length kc] w fun e w' => e = .returned (.bool true) ∧ Below w.heap.size w w' := by
  have H := box h; have Hk := box hk
  clear h hk
  obtain ⟨N0, HN0⟩ : ∃ x, Box (w.heap.size = x) := ⟨_, ⟨rfl⟩⟩
  go_enter Try.func3, Try.ntmps3
  go_wp2_with fail
  refine (sectNew_any 4 w (by omega) (by omega)).mono ?_
  rintro e w1 ⟨hb1, vs, ve, rfl, hA1⟩
  have HN1 := HN0.out
  rw [HN1] at hb1 hA1 ⊢
  have HB1 := box hb1; have HA1 := box hA1
  clear hb1 hA1
  go_wp2_with fail
  refine (sectWrite_any w1 N0 N0 vs ve _ _ HA1.out (Nat.le_of_lt HA1.out.blk.lt) rfl (by decide) (by decide) (by decide) 1 ⟨#[120]⟩ (by decide)).mono ?_
  rintro e w2 ⟨rfl, vl2, hM2⟩
  have HM2 := box hM2
  clear hM2
  have e0 : SectM.wrote (SectM.start 4) 1 ⟨#[120]⟩ = 0 := by decide
  rw [e0]
  clear e0
  go_wp2_with fail
  refine (sectFlush_any w2 N0 N0 vs ve _ _ HM2.out.at_ rfl (by decide) (by decide)).mono ?_
  rintro e w3 ⟨rfl, vl3, hM3⟩
  have HM3 := box (HM2.out.trans hM3)
  clear hM3
  have e0 : SectM.flushed (SectM.write (SectM.start 4) 1 ⟨#[120]⟩) = 0 := by decide
  rw [e0]
  clear e0 HM2
  have HInv : Box (SectM.Inv (SectM.flush (SectM.write (SectM.start 4) 1 ⟨#[120]⟩)) (SectM.tail (SectM.upd (fun _ => [SectM.blank]) 1 ([SectM.blank] ++ [SectM.pad ⟨#[120]⟩])))) := ⟨by
    refine SectM.Inv.flush (SectM.Inv.write (k := 1) ⟨SectM.start_good 4, fun k hk => ?_, fun k hk => ?_, fun x hx => by cases hx⟩ (by decide) (by decide)) (by decide)
    · obtain rfl | rfl | rfl | rfl : k = 0 ∨ k = 1 ∨ k = 2 ∨ k = 3 := by omega
      all_goals rfl
    · obtain rfl | rfl | rfl | rfl : k = 0 ∨ k = 1 ∨ k = 2 ∨ k = 3 := by omega
      all_goals exact List.mem_singleton.2 rfl⟩
  have HLate : Box ((SectM.flush (SectM.write (SectM.start 4) 1 ⟨#[120]⟩)).late.length ≤ 0) := ⟨by decide⟩
  obtain ⟨d3, Hd3⟩ : ∃ x, Box (SectM.flush (SectM.write (SectM.start 4) 1 ⟨#[120]⟩) = x) := ⟨_, ⟨rfl⟩⟩
  rw [Hd3.out] at HM3 HInv HLate
  have HB3 : Box (Below N0 w w3) := ⟨HB1.out.trans (HM3.out.kept.below (Nat.le_of_lt HA1.out.blk.lt) (fun b hb => (HA1.out.mine_lt hb).1))⟩
  have HA3 := box HM3.out.at_
  clear HM3 HB1 HA1 Hd3
  go_wp2_with fail
  refine (repeat_zeros 64 _ (by omega)).mono ?_
  rintro e w4 ⟨rfl, hb4⟩
  obtain ⟨gs, cs, rfl, hcs⟩ := HA3.out.rowS (by rw [HInv.out.good.safe]; decide)
  obtain ⟨ge, ce, rfl, hce⟩ := HA3.out.rowE (by rw [HInv.out.good.seen]; decide)
  have e1 := HInv.out.good.safe
  have e2 := HInv.out.good.seen
  rw [e1, e2] at HA3
  rw [e1] at hcs
  rw [e2] at hce
  clear e1 e2
  obtain ⟨B, HBe⟩ : ∃ x, Box (w3.heap.size = x) := ⟨_, ⟨rfl⟩⟩
  have hgl : gs < w3.heap.size ∧ ge < w3.heap.size := ⟨(HA3.out.safe.lt gs rfl).2, (HA3.out.seen.lt ge rfl).2⟩
  have hNl : N0 ≤ w3.heap.size := by have := HB3.out.size; omega
  have HB4 : Box (Below N0 w w4) := ⟨(HB3.out.alloc hNl _).trans (hb4.mono (by simp; omega))⟩
  have HA4 := box ((HA3.out.alloc (.cells #[.slice none 0 0, .slice none 0 0, .slice none 0 0, .slice none 0 0] 31)).below hb4)
  have HM4 : Box (SectM.May w4 N0 B gs ge 0 (fun _ => ⟨0, 0, 0, 0⟩) (fun _ => [SectM.blank])) := ⟨by
    refine ⟨?_, fun k hk => by omega, fun i j hi => by omega, fun k hk => by omega⟩
    rw [← HBe.out]
    exact (Blk.new w3 (Tab 4 (fun _ => .slice none 0 0)) 31).after hb4⟩
  have hs4 : gs < w4.heap.size ∧ ge < w4.heap.size ∧ N0 ≤ w4.heap.size := by have := hb4.size; simp at this; omega
  rw [HBe.out]
  have HB0 : Box (N0 ≤ B) := ⟨by have := HBe.out; omega⟩
  clear hb4 HA3 HB3 hgl hNl HBe
  go_wp2_with fail
  go_loopw [38] (fun t38 wr => ∃ (m : Nat) (R : Nat → RowD), m ≤ 4 ∧ t38 = .int .i64 (m : Int) ∧ Box (Below N0 w wr ∧ SectM.At wr N0 N0 (.slice (some ⟨gs, 0, none⟩) 4 cs) (.slice (some ⟨ge, 0, none⟩) 4 ce) vl3 d3 ∧ SectM.May wr N0 B gs ge m R (fun _ => [SectM.blank]))) (fun t38 _ => 4 - (RowKit.intOf t38).toNat)
  case atStart => exact ⟨0, _, by omega, rfl, ⟨HB4.out, HA4.out, HM4.out⟩⟩
  case round =>
    obtain ⟨m, R, hm, rfl, HR⟩ := hrel
    by_cases hlt : m < 4
    · have hlt2 : (m : Int) < 4 := by omega
      have hBM := HR.out.2.2.blk
      have hBl := hBM.lt
      have c0 := hBM.tabCell hlt
      rw [if_neg (Nat.lt_irrefl m)] at c0
      have z0 := hBM.frozen m
      have hsr := HR.out.2.1.blk.lt
      have hgr : gs < wr.heap.size ∧ ge < wr.heap.size := ⟨(HR.out.2.1.safe.lt gs rfl).2, (HR.out.2.1.seen.lt ge rfl).2⟩
      have HNext := box (HR.out.2.2.more hlt (Nat.le_of_lt hsr) hgr SectM.blank rfl)
      have hnm := (HR.out.2.2.alloc (.cells #[.string SectM.blank] 9)).not_mine (HR.out.2.1.alloc (.cells #[.string SectM.blank] 9))
      have hgg : (wr.alloc (.cells #[.string SectM.blank] 9)).grownBy ((wr.alloc (.cells #[.string SectM.blank] 9)).setCell ⟨B, m, none⟩ (.slice (some ⟨wr.heap.size, 0, none⟩) 1 1)) (some B) := grown_setCell _ _ _ _
      have HNA := box ((HR.out.2.1.alloc (.cells #[.string SectM.blank] 9)).other hgg (fun b hb => by injection hb with hb; subst hb; exact hnm.1))
      have HNB : Box (Below N0 w ((wr.alloc (.cells #[.string SectM.blank] 9)).setCell ⟨B, m, none⟩ (.slice (some ⟨wr.heap.size, 0, none⟩) 1 1))) := ⟨(HR.out.1.alloc (Nat.le_of_lt hsr) _).grown hgg (by simp; omega) (fun j hj => by injection hj with hj; subst hj; exact HB0.out)⟩
      rw [World.setCell_alloc_past _ _ _ _ hBl] at HNext HNA HNB
      clear hBM hnm hgg
      go_wp2_with fail
      go_roundw
      case rel => exact ⟨m + 1, _, by omega, by go_num, ⟨HNB.out, HNA.out, HNext.out⟩⟩
      case measure => simp [RowKit.intOf]; omega
    obtain rfl : m = 4 := by omega
    rw [show (((4 : Nat) : Int)) = 4 from rfl]
    have HMay := box HR.out.2.2
    have HA5 := box HR.out.2.1
    have HB5 := box HR.out.1
    clear HR HM4 HA4 HB4 hlt hm hs4
    have hr1 := HMay.out.row 1 (by omega)
    obtain ⟨q, Hq⟩ : ∃ q, Box (R 1 = q) := ⟨_, ⟨rfl⟩⟩
    rw [Hq.out] at hr1
    have HR1 := box hr1
    have c1 := HMay.out.blk.tabCell (i := 1) (by omega)
    rw [if_pos (by omega), Hq.out] at c1
    unfold RowD.val at c1
    have r0 := hr1.cell (j := 0) (u := .string SectM.blank) rfl
    have f0 := hr1.frozen (q.off + 0)
    rw [Nat.add_zero] at r0 f0
    obtain ⟨hset, hgset⟩ := hr1.set 0 (.string (SectM.pad ⟨#[120]⟩))
    rw [Nat.add_zero] at hset hgset
    have hn1 : q.n = 1 := hr1.len.symm
    have hsl : (SectM.zeros 64).extract 1 64 = SectM.zeros 63 := zeros_extract 1 64
    have hzs : (SectM.zeros 64).size = 64 := rfl
    have hov : ¬ 9223372036854775807 < 1 + (SectM.zeros 63).size := by show ¬ 9223372036854775807 < 1 + 63; decide
    have hpx : (⟨#[120]⟩ : ByteArray) ++ SectM.zeros 63 = SectM.pad ⟨#[120]⟩ := pad_eq ⟨#[120]⟩
    go_wp2_with fail
    obtain ⟨d, Hd⟩ : ∃ x, Box (SectM.tail (SectM.upd (fun _ => [SectM.blank]) 1 ([SectM.blank] ++ [SectM.pad ⟨#[120]⟩])) = x) := ⟨_, ⟨rfl⟩⟩
    have HLaw : Box (SectM.LawAt w N0 B gs ge cs ce vl3 d3 R d 0 (wr.setCell ⟨q.g, q.off, none⟩ (.string (SectM.pad ⟨#[120]⟩))).drew) := ⟨by
      have hm := HMay.out.inRow (k := 1) (by omega) (by rw [Hq.out]; exact hgset) [SectM.pad ⟨#[120]⟩] (by rw [Hq.out]; exact hset)
      have hnm := HMay.out.not_mine HA5.out
      refine ⟨(HB5.out.grown hgset (by have := HB5.out.size; omega) (fun j hj => by injection hj with hj; subst hj; exact HR1.out.base)).drew, (HA5.out.other hgset (fun b hb => by injection hb with hb; rw [← hb, ← Hq.out]; exact hnm.2 1 (by omega))).drew, ?_, ?_, HLate.out, fun k hk => ?_⟩
      · refine hm.drew.congr (fun k hk => ?_)
        rw [← Hd.out]
        obtain rfl | rfl | rfl | rfl : k = 0 ∨ k = 1 ∨ k = 2 ∨ k = 3 := by omega
        all_goals rfl
      · rw [← Hd.out]; exact HInv.out
      · rw [← Hd.out]
        obtain rfl | rfl | rfl | rfl : k = 0 ∨ k = 1 ∨ k = 2 ∨ k = 3 := by omega
        all_goals exact Nat.le_refl _⟩
    clear hset hgset hr1
    go_region
    go_wp2_with fail
    obtain ⟨w5, HW5⟩ : ∃ x, Box ((wr.setCell ⟨q.g, q.off, none⟩ (.string (SectM.pad ⟨#[120]⟩))).drew = x) := ⟨_, ⟨rfl⟩⟩
    rw [HW5.out] at HLaw ⊢
    have hDl : L.length ≤ 2600000000000 := by omega
    obtain ⟨M, HM⟩ : ∃ M, Box (L.length = M) := ⟨_, ⟨rfl⟩⟩
    rw [HM.out] at hcap hDl ⊢
    clear c1 r0 f0 hn1 hsl hzs hov hpx HW5 Hq HR1 HMay HA5 HB5 Hd HInv HLate
    generalize vl3 = vl0 at HLaw
    generalize d3 = d0 at HLaw
    go_loopw [54] (fun t54 wr => ∃ (j : Nat) (vl : Value) (dk : DiskM) (R : Nat → RowD) (may : Nat → List ByteArray), j ≤ M ∧ t54 = .int .i64 (j : Int) ∧ Box (SectM.LawAt w N0 B gs ge cs ce vl dk R may j wr)) (fun t54 _ => M - (RowKit.intOf t54).toNat)
    case atStart => exact ⟨0, _, _, _, _, Nat.zero_le _, rfl, HLaw⟩
    case round =>
      obtain ⟨j, vl, dk, R, may, hj, rfl, HL⟩ := hrel
      by_cases hlt : j < M
      case neg =>
        obtain rfl : j = M := by omega
        have e1 := HL.out.inv.good.safe
        have e2 := HL.out.inv.good.seen
        have e3 := HL.out.late
        go_wp2_with fail
        refine (sectCrash_any wr N0 N0 _ _ vl dk HL.out.at_ (Nat.le_of_lt HL.out.size) (by rw [e1, e2]) (by omega) (by omega) (by omega) (fun x hx => by rw [e1]; exact HL.out.inv.good.late x hx) ks ko kc (fun W hW => Hk.out.below (HL.out.below.trans hW) (by omega))).mono ?_
        rintro e w6 ⟨rfl, vl6, hM6⟩
        obtain ⟨hb6, hm6⟩ := HL.out.moved hM6
        have HB6 := box hb6; have HM6 := box hm6; have HA6 := box hM6.at_
        have HIn : Box (∀ k, k < 4 → (SectM.crash dk ks).seen.getD k SectM.blank ∈ may k) := ⟨fun k hk => HL.out.inv.crash ks hk⟩
        have HGd := box (SectM.crash_good HL.out.inv.good ks)
        have HLn := box HL.out.len
        have HRd : Box (∀ k : Nat, k < 4 → SectM.readE (SectM.crash dk ks) k = 0 ∧ SectM.readV (SectM.crash dk ks) k = (SectM.crash dk ks).seen.getD k SectM.blank) := ⟨fun k hk => by
          have h1 : SectM.readE (SectM.crash dk ks) k = 0 := by
            unfold SectM.readE
            rw [if_neg (by rw [HGd.out.safe]; omega), if_neg (by show ¬ (-1 : Int) = 0; decide)]
          refine ⟨h1, ?_⟩
          unfold SectM.readV
          rw [if_pos h1, Int.toNat_natCast]⟩
        clear e1 e2 e3 hb6 hm6 hM6 HL
        generalize SectM.crash dk ks = dc at *
        go_wp2_with fail
        go_loopw [117] (fun t117 wx => ∃ k : Nat, k ≤ 4 ∧ t117 = .int .i64 (k : Int) ∧ wx = w6) (fun t117 _ => 4 - (RowKit.intOf t117).toNat)
        case atStart => exact ⟨0, by omega, rfl, rfl⟩
        case round =>
          obtain ⟨k, hk, rfl, rfl⟩ := hrel
          by_cases hk4 : k < 4
          case neg =>
            obtain rfl : k = 4 := by omega
            go_wp2_with fail
            go_ret
            exact ⟨rfl, HN0.out ▸ HB6.out⟩
          have hk5 : (k : Int) < 4 := by omega
          have c0 := HM6.out.blk.tabCell hk4
          rw [if_pos hk4] at c0
          unfold RowD.val at c0
          have hrow := HM6.out.row k hk4
          obtain ⟨r1, r2⟩ := HRd.out k hk4
          have hin := HIn.out k hk4
          have hln := HLn.out k hk4
          have hst : StrsAt wr (some ⟨(R k).g, (R k).off, none⟩) (may k) := Or.inr ⟨_, _, rfl, hrow.lt, fun i hi => hrow.cell (strVals_get hi)⟩
          have hnn : (R k).n = (may k).length := by rw [← hrow.len, strVals_length]
          rw [hnn] at c0
          have HSt := box hst; have HIn2 := box hin; have R1 := box r1; have R2 := box r2
          clear hrow hst hin r1 r2 hnn
          go_wp2_with fail
          refine (sectRead_any wr N0 N0 _ _ _ dc HA6.out (by rw [HGd.out.safe, HGd.out.seen]) (by rw [HGd.out.safe]; omega) (by rw [HGd.out.safe]; omega) k).mono ?_
          rintro e w7 ⟨rfl, rfl⟩
          rw [R1.out, R2.out]
          generalize dc.seen.getD k SectM.blank = x at *
          go_wp2_with fail
          refine (contains_strs_in (may k) x HIn2.out _ _ _ HSt.out (by omega)).mono ?_
          rintro e w7 ⟨rfl, rfl⟩
          go_wp2_with fail
          go_roundw
          case rel => exact ⟨k + 1, by omega, by go_num, by simp⟩
          case measure => simp [RowKit.intOf]; omega
      have hjl : j < L.length := by have := HM.out; omega
      have HDl := box (H.out.below HL.out.below (by omega))
      obtain ⟨db, doff, rfl, hdb, hrow⟩ := HDl.out.row.resolve_left (by intro h; rw [h] at hjl; simp at hjl)
      obtain ⟨k0, k1, k2, k3⟩ := hrow j hjl
      have hsl := HDl.out.sl L[j] (List.getElem_mem hjl)
      have hnR := hsl.n
      have htx := hsl.text
      obtain ⟨x, HX⟩ : ∃ x, Box (L[j] = x) := ⟨_, ⟨rfl⟩⟩
      rw [HX.out] at k0 k1 k2 k3 hnR htx
      obtain ⟨kind, n, text, keep, ka, kc2⟩ := x
      dsimp only at k0 k1 k2 k3 hnR htx
      clear hsl hrow HX
      go_wp2_with fail
      refine (rest_any n 4 _ (by omega) (by omega)).mono ?_
      rintro e w6 ⟨rfl, rfl⟩
      obtain ⟨p, HP⟩ : ∃ p : Nat, Box ((n % ((4 : Nat) : Int)).toNat = p) := ⟨_, ⟨rfl⟩⟩
      have hp : p < 4 := by have := HP.out; omega
      rw [HP.out]
      have HL1 := box (HL.out.alloc (.cells #[.int .i64 kind, .int .i64 n, .string text, .slice ka keep.length kc2] 34))
      have HX1 := box (Blk.new wr [.int .i64 kind, .int .i64 n, .string text, .slice ka keep.length kc2] 34)
      obtain ⟨X, HXe⟩ : ∃ X, Box (wr.heap.size = X) := ⟨_, ⟨rfl⟩⟩
      obtain ⟨W, HWe⟩ : ∃ W, Box (wr.alloc (.cells #[.int .i64 kind, .int .i64 n, .string text, .slice ka keep.length kc2] 34) = W) := ⟨_, ⟨rfl⟩⟩
      have HX2 : Box (Blk W X 34 [.int .i64 kind, .int .i64 n, .string text, .slice ka keep.length kc2]) := ⟨by rw [← HXe.out, ← HWe.out]; exact HX1.out⟩
      rw [HWe.out] at HL1 ⊢
      rw [HXe.out]
      clear HX1 HL k0 k1 k2 k3 hdb HWe HXe
      have x0 := HX2.out.cell (i := 0) rfl
      have x1 := HX2.out.cell (i := 1) rfl
      have x2 := HX2.out.cell (i := 2) rfl
      have e1 := HL1.out.inv.good.safe
      have e2 := HL1.out.inv.good.seen
      have E1 := box e1; have E2 := box e2
      have hla := HL1.out.late
      clear e1 e2
      cases q2 : (kind == 2) with
      | true =>
        go_wp2_with fail
        refine (sectFlush_any W N0 N0 _ _ vl dk HL1.out.at_ (by rw [E1.out, E2.out]) (by rw [E1.out]; omega) (by rw [E1.out]; omega)).mono ?_
        rintro e w7 ⟨rfl, vl7, hM7⟩
        obtain ⟨c, HC⟩ : ∃ c, Box (SectM.flushed dk = c) := ⟨_, ⟨rfl⟩⟩
        rw [HC.out]
        obtain ⟨hb7, hm7⟩ := HL1.out.moved hM7
        have HB7 := box hb7; have HM7 := box hm7; have HA7 := box hM7.at_
        clear hb7 hm7 hM7 x0 x1 x2
        cases q3 : (c == 0) with
        | false =>
          have HFl : Box (SectM.flush dk = dk) := ⟨by unfold SectM.flush; rw [if_neg (by rw [HC.out]; simpa using q3)]⟩
          rw [HFl.out] at HA7
          go_wp2_with fail
          go_roundw
          case rel => exact ⟨j + 1, vl7, dk, R, may, by omega, by go_num, ⟨⟨HB7.out, HA7.out, HM7.out, HL1.out.inv, by omega, fun k hk => by have := HL1.out.len k hk; omega⟩⟩⟩
          case measure => simp [RowKit.intOf]; omega
        | true =>
          have HIn := box (HL1.out.inv.flush (by rw [HC.out]; simpa using q3))
          have HLt : Box ((SectM.flush dk).late.length ≤ 0) := ⟨by unfold SectM.flush; rw [if_pos (by rw [HC.out]; simpa using q3)]; exact Nat.le_refl _⟩
          have HTl : Box (∀ k, k < 4 → ∃ t, (may k).getLast? = some t ∧ SectM.tail may k = [t]) := ⟨fun k hk => ⟨_, HL1.out.inv.last k hk, by unfold SectM.tail; rw [HL1.out.inv.last k hk]; rfl⟩⟩
          generalize SectM.flush dk = df at *
          go_wp2_with fail
          go_loopw [68] (fun t68 wx => ∃ (i : Nat) (R : Nat → RowD), i ≤ 4 ∧ t68 = .int .i64 (i : Int) ∧ Box (Below N0 w wx ∧ SectM.At wx N0 N0 (.slice (some ⟨gs, 0, none⟩) 4 cs) (.slice (some ⟨ge, 0, none⟩) 4 ce) vl7 df ∧ SectM.May wx N0 B gs ge 4 R (SectM.tailTo i may))) (fun t68 _ => 4 - (RowKit.intOf t68).toNat)
          case atStart => exact ⟨0, R, by omega, rfl, ⟨HB7.out, HA7.out, HM7.out.congr (fun k _ => by unfold SectM.tailTo; rw [if_neg (Nat.not_lt_zero k)])⟩⟩
          case round =>
            obtain ⟨i, R, hi, rfl, HR⟩ := hrel
            by_cases hi4 : i < 4
            case neg =>
              obtain rfl : i = 4 := by omega
              go_wp2_with fail
              go_roundw
              case rel => exact ⟨j + 1, vl7, df, R, SectM.tail may, by omega, by go_num, ⟨⟨HR.out.1, HR.out.2.1, HR.out.2.2.congr (fun k hk => by unfold SectM.tailTo; rw [if_pos hk]), HIn.out, by have := HLt.out; omega, fun k hk => by obtain ⟨t, _, ht⟩ := HTl.out k hk; rw [ht]; show 1 ≤ _; omega⟩⟩⟩
              case measure => simp [RowKit.intOf]; omega
            have hi5 : (i : Int) < 4 := by omega
            have c0 := HR.out.2.2.blk.tabCell hi4
            rw [if_pos hi4] at c0
            have z0 := HR.out.2.2.blk.frozen i
            have hrow := HR.out.2.2.row i hi4
            obtain ⟨t, ht1, ht2⟩ := HTl.out i hi4
            have hmi : SectM.tailTo i may i = may i := by unfold SectM.tailTo; rw [if_neg (Nat.lt_irrefl i)]
            rw [hmi] at hrow
            have hlast := hrow.last (u := .string t) (by unfold strVals; rw [List.getLast?_map, ht1]; rfl)
            obtain ⟨r, Hr⟩ : ∃ r, Box (R i = r) := ⟨_, ⟨rfl⟩⟩
            have hsi := HR.out.2.2.s i hi4
            rw [Hr.out] at c0 hrow hlast hsi
            obtain ⟨g, off, nn, cp⟩ := r
            unfold RowD.val at c0
            dsimp only at c0 hrow hlast hsi
            have hnn : 1 ≤ nn := by
              have h1 := hrow.len
              rw [strVals_length] at h1
              rcases hq : may i with _ | ⟨a, l⟩
              · rw [hq] at ht1; cases ht1
              · rw [hq] at h1; simp at h1; omega
            have hle := hrow.le
            have hmx := hrow.mx
            unfold maxLen at hmx
            have HPut := box (HR.out.2.2.put hi4 (w1 := wr) ⟨rfl, rfl, rfl, Nat.le_refl _, fun _ _ _ => rfl⟩ ⟨g, off + (nn - 1), 1, cp - (nn - 1)⟩ [t] hlast (by rw [Hr.out]; exact Or.inl rfl) hsi)
            have HCg : Box (∀ k, k < 4 → SectM.tailTo (i + 1) may k = SectM.upd (SectM.tailTo i may) i [t] k) := ⟨fun k hk => by
              unfold SectM.tailTo SectM.upd
              by_cases e : k = i
              · subst e; rw [if_pos (by omega), if_pos rfl, ht2]
              · rw [if_neg e]
                by_cases e2 : k < i
                · have e3 : k < i + 1 := by omega
                  simp [e2, e3]
                · have e3 : ¬ k < i + 1 := by omega
                  simp [e2, e3]⟩
            have hnm := HR.out.2.2.not_mine HR.out.2.1
            have HNA := box (HR.out.2.1.other (grown_setCell wr B i (.slice (some ⟨g, off + (nn - 1), none⟩) 1 (cp - (nn - 1)))) (fun b hb => by injection hb with hb; subst hb; exact hnm.1))
            have HNB : Box (Below N0 w (wr.setCell ⟨B, i, none⟩ (.slice (some ⟨g, off + (nn - 1), none⟩) 1 (cp - (nn - 1))))) := ⟨HR.out.1.grown (grown_setCell wr B i _) (by have := HR.out.2.1.blk.lt; omega) (fun j hj => by injection hj with hj; subst hj; exact HB0.out)⟩
            have hw1 : IntKind.i64.wrap ((nn : Int) - 1) = ((nn - 1 : Nat) : Int) := by
              rw [show ((nn - 1 : Nat) : Int) = (nn : Int) - 1 by omega]; exact IntWalk.i64_in _ (by omega)
            have hw2 : nn - (nn - 1) = 1 := by omega
            have hw3 : ((nn - 1 : Nat) : Int) ≤ nn := by omega
            have hw4 : nn - 1 ≤ nn := by omega
            clear hrow hlast ht1 ht2 hmi hnm hsi
            go_upto_region 21 with (fail)
            go_region
            clear hw1 hw2 hw3 hw4
            go_wp2_with fail
            go_roundw
            case rel => exact ⟨i + 1, _, by omega, by go_num, ⟨HNB.out.drew, HNA.out.drew, (HPut.out.congr HCg.out).drew⟩⟩
            case measure => simp [RowKit.intOf]; omega
      | false =>
      have q2' : ¬ kind = 2 := by simpa using q2
      cases q3 : (kind == 3) with
      | true =>
        go_wp2_with fail
        refine (sectFuse_any W N0 N0 _ _ vl dk HL1.out.at_ n hnR.2).mono ?_
        rintro e w7 ⟨rfl, hA7, hK7⟩
        obtain ⟨hb7, hm7⟩ := HL1.out.moved ⟨hA7, hK7, fun _ h => Or.inr h⟩
        have HB7 := box hb7; have HM7 := box hm7; have HA7 := box hA7
        clear hb7 hm7 hA7 hK7 x0 x1 x2 q2'
        go_wp2_with fail
        go_roundw
        case rel => exact ⟨j + 1, vl, SectM.fuse dk n, R, may, by omega, by go_num, ⟨⟨HB7.out, HA7.out, HM7.out, HL1.out.inv.fuse n, by show dk.late.length ≤ _; omega, fun k hk => by have := HL1.out.len k hk; omega⟩⟩⟩
        case measure => simp [RowKit.intOf]; omega
      | false =>
      have q3' : ¬ kind = 3 := by simpa using q3
      go_wp2_with fail
      refine (sectWrite_any W N0 N0 _ _ vl dk HL1.out.at_ (Nat.le_of_lt HL1.out.size) (by rw [E1.out, E2.out]) (by rw [E1.out]; omega) (by rw [E1.out]; omega) (by omega) (p : Int) text htx).mono ?_
      rintro e w7 ⟨rfl, vl7, hM7⟩
      obtain ⟨c, HC⟩ : ∃ c, Box (SectM.wrote dk p text = c) := ⟨_, ⟨rfl⟩⟩
      rw [HC.out]
      obtain ⟨hb7, hm7⟩ := HL1.out.moved hM7
      have HB7 := box hb7; have HM7 := box hm7; have HA7 := box hM7.at_
      have hXn : ¬ SectM.Mine N0 (.slice (some ⟨gs, 0, none⟩) 4 cs) (.slice (some ⟨ge, 0, none⟩) 4 ce) vl X := by
        rintro (e | e | e | e)
        · exact (HX2.out.ne HL1.out.at_.blk (by decide)) e
        · exact HX2.out.ne_own HL1.out.at_.safe (by decide) e
        · exact HX2.out.ne_own HL1.out.at_.seen (by decide) e
        · exact HX2.out.ne_own HL1.out.at_.late (by decide) e
      have HX7 := box (hM7.kept.blk HX2.out hXn)
      clear hb7 hm7 hM7 x0 x1 x2 q2' q3' hXn
      cases q4 : (c == 0) with
      | false =>
        have HWr : Box (SectM.write dk p text = dk) := ⟨by unfold SectM.write; rw [if_neg (by rw [HC.out]; simpa using q4)]⟩
        rw [HWr.out] at HA7
        go_wp2_with fail
        go_roundw
        case rel => exact ⟨j + 1, vl7, dk, R, may, by omega, by go_num, ⟨⟨HB7.out, HA7.out, HM7.out, HL1.out.inv, by omega, fun k hk => by have := HL1.out.len k hk; omega⟩⟩⟩
        case measure => simp [RowKit.intOf]; omega
      | true =>
      have q5 : SectM.wrote dk p text = 0 := by rw [HC.out]; simpa using q4
      have HIn := box (HL1.out.inv.write hp q5)
      have HLt : Box ((SectM.write dk p text).late.length ≤ j + 1) := ⟨by unfold SectM.write; rw [if_pos q5]; simp; omega⟩
      have htx2 : text.size ≤ 64 := by
        unfold SectM.wrote at q5
        split at q5
        · cases q5
        · split at q5
          · cases q5
          · omega
      have HLen : Box (∀ k, k < 4 → (SectM.upd may p (may p ++ [SectM.pad text]) k).length ≤ j + 1 + 1) := ⟨fun k hk => by
        have := HL1.out.len k hk
        unfold SectM.upd
        split
        · rename_i e; subst e; simp; omega
        · omega⟩
      clear q5
      generalize SectM.write dk p text = dw at *
      obtain ⟨i0, hi0, hz0, hz1, hz2⟩ := info_parts Try.infoStr2
      have x2 := HX7.out.cell (i := 2) rfl
      have c0 := HM7.out.blk.tabCell hp
      rw [if_pos hp] at c0
      have hrow := HM7.out.row p hp
      have hsi := HM7.out.s p hp
      obtain ⟨r, Hr⟩ : ∃ r, Box (R p = r) := ⟨_, ⟨rfl⟩⟩
      rw [Hr.out] at c0 hrow hsi
      obtain ⟨g, off, nn, cp⟩ := r
      unfold RowD.val at c0
      dsimp only at c0 hrow hsi
      have hnn : nn ≤ 2600000000001 := by
        have h1 := hrow.len
        rw [strVals_length] at h1
        have := HL1.out.len p hp
        omega
      have hBl7 := HM7.out.blk.lt
      have hp4 : (p : Int) < 4 := by omega
      have hbz : N0 ≤ w7.heap.size := by have := HA7.out.blk.lt; omega
      have hpd := pad_eq2 text
      have htx3 : (text.size : Int) ≤ 64 := by omega
      have hzs : (SectM.zeros 64).size = 64 := rfl
      have hov : ¬ 9223372036854775807 < text.size + ((SectM.zeros 64).extract text.size 64).size := by rw [zeros_extract]; show ¬ _ < text.size + (List.replicate (64 - text.size) (0 : UInt8)).toArray.size; simp; omega
      have HPut : Box (∀ (g' off' cap' : Nat) (w2 : World), OffRow w2 N0 9 g' off' (nn + 1) cap' (strVals (may p) ++ [.string (SectM.pad text)]) → ((w7.alloc (.cells #[.string (SectM.pad text)] 9)).drew).grownBy w2 (some g) → (g' = g ∨ (w7.alloc (.cells #[.string (SectM.pad text)] 9)).drew.heap.size ≤ g') →
          Blk w2 B 31 (Tab 4 (fun k => if k < 4 then (R k).val else .slice none 0 0)) ∧ SectM.LawAt w N0 B gs ge cs ce vl7 dw (upd R p ⟨g', off', nn + 1, cap'⟩) (SectM.upd may p (may p ++ [SectM.pad text])) (j + 1) (w2.setCell ⟨B, p, none⟩ (.slice (some ⟨g', off', none⟩) (nn + 1) cap'))) := ⟨by
        intro g' off' cap' w2 ho hg hat
        have hm1 := (HM7.out.alloc (.cells #[.string (SectM.pad text)] 9)).drew
        have ha1 := (HA7.out.alloc (.cells #[.string (SectM.pad text)] 9)).drew
        have hnm := hm1.not_mine ha1
        have hb2 : Blk w2 B 31 (Tab 4 (fun k => if k < 4 then (R k).val else .slice none 0 0)) := hm1.blk.grown hg (by
          intro e; injection e with e
          have h5 := (hm1.row p hp).ne_blk hm1.blk (by decide)
          rw [Hr.out] at h5
          exact h5 e.symm)
        refine ⟨hb2, ?_⟩
        have ha2 := ha1.other hg (fun b hb => by
          injection hb with hb
          have h5 := hnm.2 p hp
          rw [Hr.out] at h5
          rw [← hb]; exact h5)
        have hBm : ¬ SectM.Mine N0 (.slice (some ⟨gs, 0, none⟩) 4 cs) (.slice (some ⟨ge, 0, none⟩) 4 ce) vl7 B := hnm.1
        have hB7 : Below N0 w (w7.alloc (.cells #[.string (SectM.pad text)] 9)).drew := (HB7.out.alloc hbz _).drew
        refine ⟨(hB7.grown hg (by simp; omega) (fun j hj => by injection hj with hj; subst hj; exact hrow.base)).grown (grown_setCell w2 B p _) (by have := hg.size; simp at this; omega) (fun j hj => by injection hj with hj; subst hj; exact HB0.out), ha2.other (grown_setCell w2 B p _) (fun b hb => by injection hb with hb; subst hb; exact hBm), ?_, HIn.out, HLt.out, HLen.out⟩
        exact hm1.put hp (by rw [Hr.out]; exact hg) ⟨g', off', nn + 1, cap'⟩ (may p ++ [SectM.pad text]) (by unfold strVals at ho ⊢; rw [List.map_append]; exact ho) (by rw [Hr.out]; exact hat) (by
          rcases hat with e | e
          · show g' ≠ gs ∧ g' ≠ ge
            rw [e]; exact hsi
          · have h1 := (HA7.out.safe.lt gs rfl).2
            have h2 := (HA7.out.seen.lt ge rfl).2
            simp at e
            show g' ≠ gs ∧ g' ≠ ge
            omega)⟩
      have HRow := box hrow
      clear hrow hsi
      go_upto_region 26 with (fail)
      have e7 : B < w7.drew.heap.size := hBl7
      refine wp_meet3 (fun wx => ∃ Rn, SectM.LawAt w N0 B gs ge cs ce vl7 dw Rn (SectM.upd may p (may p ++ [SectM.pad text])) (j + 1) wx) ?_
      apply Exists.intro
      constructor
      · go_region_law ((refine step_append_off (by rfl) _ _ _ (by rfl) N0 9 i0 (.string ByteArray.empty) 16 Try.underlying30 hi0 hz0 hz1 hz2 rfl g off nn cp (strVals (may p)) (by rfl) ((HRow.out.alloc _).drew) (by simp; omega) ⟨w7.heap.size, 0, none⟩ 1 (.string (SectM.pad text)) (by rfl) ((Blk.new w7 [.string (SectM.pad text)] 9).drew.cell (i := 0) rfl) rfl (by unfold maxLen; omega) (by omega) rfl ?_; intro g' off' cap' w2 ho hg hat; obtain ⟨hb2, hlaw⟩ := HPut.out g' off' cap' w2 ho hg hat; have HLw := box hlaw; have y0 := hb2.tabCell hp; have y1 := hb2.frozen p; rw [if_pos hp, Hr.out] at y0; unfold RowD.val at y0; clear ho hg hat hlaw hb2))
        all_goals
          exact ⟨g', off', cap', rfl, _, HLw.out⟩
      intro gg goff gcap wx hcut
      obtain ⟨Rn, hlaw⟩ := hcut
      have HLw := box hlaw
      clear hlaw
      go_wp2_with fail
      go_roundw
      case rel => exact ⟨j + 1, vl7, dw, Rn, _, by omega, by go_num, ⟨HLw.out⟩⟩
      case measure => simp [RowKit.intOf]; omega
end Go.Proofs.Ytnpiiggmdekfiaa
