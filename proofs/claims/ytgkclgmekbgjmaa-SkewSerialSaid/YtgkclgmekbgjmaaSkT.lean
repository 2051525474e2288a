/- skew's read: what it tells and leaves. -/
import Derived.Test.YtgkclgmekbgjmaaSkC
import Derived.Deep.AppendLies
namespace Go.Proofs.Ytgkclgmekbgjmaa
open Go.RowKit Go.Lib

section
variable {w wa : World} {N : Nat} {st : SkSt} {v : Nat → Value}
set_option maxRecDepth 20000 in
set_option maxHeartbeats 8000000 in
theorem skRead_any (h : SkM.SW w N st v wa) {x it : Nat} (hx : x < 12) (hit : it < 20) (t : Int) {m : Nat} (hb : SkM.Bnd st m) (hm : m ≤ 200) :
    Calls Try.prog 106 #[.pointer (some ⟨N, 0, none⟩), .pointer (some ⟨N, x * 6, none⟩), .int .i64 t, .int .i64 (it : Int)] wa fun e w' =>
      ∃ v', e = .returned (.int .i64 (SkM.readV st x t (it : Int))) ∧ SkM.SW w N (SkM.readS st x (it : Int)) v' w' ∧ SkM.Kept N wa w' := by
  obtain ⟨i0, hi0, hz0, hz1, hz2⟩ := info_parts SkM.infoI
  have H := box h; have Hbn := box hb
  have hlN := h.b0.lt
  have hlw : (st.rows (12 + x)).length ≤ 9000000000000000000 := Nat.le_trans (hb.rw_ (12 + x) (by omega)) (by omega)
  have hlr : (st.rows x).length ≤ 200 := Nat.le_trans (hb.rw_ x (by omega)) (by omega)
  obtain ⟨ao, cap, _, hat, hcell, _⟩ := h.row (r := 12 + x) (by omega)
  rw [SkM.place_wr hx] at hcell
  have HAT := box hat
  have HRS : Box (SkM.readS st x (it : Int) = if (it : Int) ∈ st.rows (12 + x) then st else if (it : Int) ∈ st.rows x then st else { st with rows := upd st.rows x (st.rows x ++ [(it : Int)]) }) := ⟨rfl⟩
  have HRV : Box (SkM.readV st x t (it : Int) = if (it : Int) ∈ st.rows (12 + x) then t else SkM.seen st (st.fr x) (st.rows (24 + it))) := ⟨rfl⟩
  clear h hb hat
  go_enter Try.func106, Try.ntmps106
  go_wp2_with fail
  refine (contains_ints (st.rows (12 + x)) (it : Int) ao cap _ HAT.out hlw).mono ?_
  rintro e w6 ⟨rfl, rfl⟩
  by_cases hmem : (it : Int) ∈ st.rows (12 + x)
  · have hm := box hmem
    rw [decide_eq_true hmem]
    clear hmem
    go_wp2_with fail
    go_ret
    refine ⟨v, by rw [HRV.out, if_pos hm.out]; rfl, ?_, SkM.Kept.refl _ _⟩
    rw [HRS.out, if_pos hm.out]; exact H.out
  have hm := box hmem
  rw [decide_eq_false hmem]
  clear hmem hcell HAT
  rw [if_neg hm.out] at HRS HRV
  obtain ⟨ao, cap, hv, hat, hcell, _⟩ := H.out.row (r := x) (by omega)
  rw [SkM.place_rd hx] at hcell
  have HAT := box hat; have Hvx := box hv
  clear hat hv
  obtain ⟨y, HY⟩ : ∃ y, Box (decide ((it : Int) ∈ st.rows x) = y) := ⟨_, ⟨rfl⟩⟩
  go_upto_if 25 with (refine (contains_ints (st.rows x) (it : Int) ao cap _ HAT.out (by omega)).mono ?_; rintro e w6 ⟨rfl, rfl⟩; rw [HY.out])
  go_cut [] (fun wx => ∃ v', SkM.SW w N (SkM.readS st x (it : Int)) v' wx ∧ SkM.Kept N wa wx)
  case first =>
    cases y with
    | true =>
      go_wp2_with fail
      go_meet
      refine ⟨v, ?_, SkM.Kept.refl _ _⟩
      rw [HRS.out, if_pos (of_decide_eq_true HY.out)]; exact H.out
    | false =>
      have ownr : wa.ownsRow w.heap.size 3 1 (v x) (st.rows x).length (intVals (st.rows x)) := H.out.fam.own x (by omega)
      rw [Hvx.out] at ownr
      have eb := H.out.below.size
      have hown2 := ownr.alloc (.cells #[.int .i64 (it : Int)] 3)
      have a2 : (Value.slice ao (st.rows x).length cap).ownBlock ≠ some N := H.out.b0.ne_own ownr (by decide)
      have fw := H.out.b0.frozen (x * 6 + 4)
      go_wp2_with (at_builtin; go_must (refine wpList_append_lies _ rfl _ _ 31 rfl w.heap.size 3 i0 _ 1 8 Try.underlying31 hi0 hz0 hz1 hz2 rfl (by decide) (.slice ao (st.rows x).length cap) _ _ rfl hown2 ⟨wa.heap.size, 0, none⟩ 1 1 [.int .i64 (it : Int)] rfl rfl (cells_new wa [.int .i64 (it : Int)] 3) (by simp [Value.oneCell']) (by omega) (by unfold maxLen; omega) (by omega) (by simp; omega) (wa.heap.size + 1) (by simp) ?_))
      intro gg gcap w9 hown3 hgrow hat9 hlt9
      have g1' := (H.out.b0.alloc (.cells #[.int .i64 (it : Int)] 3)).grown hgrow a2
      have g2 := g1'.frozen (x * 6 + 4)
      obtain ⟨z, hz⟩ : ∃ z, w9.cell? ⟨N, x * 6 + 4, none⟩ = some z := ⟨_, g1'.tabCell (i := x * 6 + 4) (by omega)⟩
      have HSW := box ((H.out.alloc (.cells #[.int .i64 (it : Int)] 3)).putR (r := x) (k := (it : Int)) (by omega) hown3 (by rw [Hvx.out]; exact hgrow) (by rw [Hvx.out]; exact hat9.imp id (fun h => by rw [h]; exact (World.size_alloc _ _).symm)))
      have HKP := box ((((SkM.Kept.refl N wa).alloc (.cells #[.int .i64 (it : Int)] 3)).grown hown2 hgrow).set (Or.inl rfl) (x * 6 + 4) (.slice (some ⟨gg, 0, none⟩) ((st.rows x).length + 1) gcap))
      clear hown3 hgrow hat9 g1' hown2 ownr
      rw [SkM.place_rd hx] at HSW
      go_wp2_with fail
      go_meet
      refine ⟨upd v x (.slice (some ⟨gg, 0, none⟩) ((st.rows x).length + 1) gcap), ?_, HKP.out⟩
      rw [HRS.out, if_neg (of_decide_eq_false HY.out)]; exact HSW.out
  case rest =>
  obtain ⟨v2, hsw, hkp⟩ := hcut
  have HSW := box hsw
  have HKP := box hkp
  have hB2 : SkM.Bnd (SkM.readS st x (it : Int)) (m + 1) := by
    rw [HRS.out]
    split
    · exact Hbn.out.more
    · exact Hbn.out.put (r := x) (by omega) ⟨by omega, by omega⟩
  have HB2 := box hB2
  have HEq : Box (SkM.seen st (st.fr x) (st.rows (24 + it)) = SkM.seen (SkM.readS st x (it : Int)) ((SkM.readS st x (it : Int)).fr x) ((SkM.readS st x (it : Int)).rows (24 + it))) := ⟨by
    rw [HRS.out]
    split
    · rfl
    · simp only []
      rw [upd_other _ _ (by omega)]; rfl⟩
  rw [HEq.out] at HRV
  clear hcell HAT HY Hvx HEq hB2
  obtain ⟨s, HSS⟩ : ∃ s, Box (SkM.readS st x (it : Int) = s) := ⟨_, ⟨rfl⟩⟩
  rw [HSS.out] at hsw HSW HB2 HRV
  clear HRS
  obtain ⟨ao2, cap2, hv2, hat2, hcell2, _⟩ := hsw.row (r := 24 + it) (by omega)
  rw [SkM.place_ws] at hcell2
  have HAT2 := box hat2
  have hlw2 : (s.rows (24 + it)).length ≤ 50000 := Nat.le_trans (HB2.out.v (24 + it) (by omega)) (Nat.le_trans (Nat.mul_le_mul (show m + 1 ≤ 201 by omega) (show m + 1 ≤ 201 by omega)) (by decide))
  have hlN2 := hsw.b0.lt
  have hit0 : (0 : Int) ≤ (it : Int) := by omega
  have hit1 : (it : Int) < 20 := by omega
  clear hsw hkp hat2
  go_wp2_with fail
  go_loopw [9, 43] (fun t9 t43 wr => ∃ k : Nat, k ≤ (s.rows (24 + it)).length ∧ t43 = .int .i64 (k : Int) ∧ t9 = .int .i64 (SkM.seen s (s.fr x) ((s.rows (24 + it)).take k)) ∧ Box (Below wc.heap.size wc wr)) (fun _ t43 _ => (s.rows (24 + it)).length - (intOf t43).toNat)
  case atStart => exact ⟨0, Nat.zero_le _, rfl, rfl, ⟨Below.refl _ _⟩⟩
  case round =>
    obtain ⟨k, hk, rfl, rfl, Hb⟩ := hrel
    by_cases hlt : k < (s.rows (24 + it)).length
    case neg =>
      have HE : Box ((s.rows (24 + it)).take k = s.rows (24 + it)) := ⟨List.take_of_length_le (by omega)⟩
      go_wp2_with fail
      go_ret
      exact ⟨v2, by rw [HE.out, HRV.out]; rfl, by rw [HSS.out]; exact HSW.out.after Hb.out, HKP.out.trans (SkM.Kept.of_below Hb.out)⟩
    obtain ⟨b, off, rfl, hbl, hrow⟩ := ((HAT2.out.below Hb.out (Nat.le_refl _)).resolve_left (by intro h; rw [h] at hlt; simp at hlt))
    have c0 := hrow k hlt
    obtain ⟨ht0, ht1⟩ := HB2.out.t (24 + it) (by omega) _ (List.getElem_mem hlt)
    have HT : Box (SkM.seen s (s.fr x) ((s.rows (24 + it)).take (k + 1)) = if s.at_ ((s.rows (24 + it))[k]).toNat ≤ s.fr x then (s.rows (24 + it))[k] else SkM.seen s (s.fr x) ((s.rows (24 + it)).take k)) := ⟨by
      rw [List.take_succ_eq_append_getElem hlt, SkM.seen, List.foldl_append]; rfl⟩
    clear hrow hcell2
    generalize (s.rows (24 + it))[k] = yy at *
    obtain ⟨y, rfl⟩ := Int.eq_ofNat_of_zero_le ht0
    rw [show (y : Int).toNat = y by omega] at HT
    have hy : y < 12 := by omega
    have HWr := box (HSW.out.after Hb.out)
    have ca := HWr.out.cell (i := y * 6 + 3) (by omega)
    rw [SkM.cell_at y hy] at ca
    have cf := HWr.out.cell (i := x * 6 + 2) (by omega)
    rw [SkM.cell_fr x hx] at cf
    generalize SkM.seen s (s.fr x) ((s.rows (24 + it)).take k) = r at *
    have HDn := box (fun n => below_dN Hb.out n)
    cases hle : decide (s.at_ y ≤ s.fr x) with
    | true =>
      rw [if_pos (of_decide_eq_true hle)] at HT
      generalize s.at_ y = a1 at *
      generalize s.fr x = f1 at *
      go_upto_region 9 with (fail)
      go_quiet (fail)
      go_wp2_with fail
      go_roundw
      case rel => exact ⟨k + 1, hlt, by go_num, by rw [HT.out], ⟨HDn.out _⟩⟩
      case measure => simp [intOf]; omega
    | false =>
      rw [if_neg (of_decide_eq_false hle)] at HT
      generalize s.at_ y = a1 at *
      generalize s.fr x = f1 at *
      go_upto_region 9 with (fail)
      go_quiet (fail)
      go_wp2_with fail
      go_roundw
      case rel => exact ⟨k + 1, hlt, by go_num, by rw [HT.out], ⟨HDn.out _⟩⟩
      case measure => simp [intOf]; omega
end
end Go.Proofs.Ytgkclgmekbgjmaa
