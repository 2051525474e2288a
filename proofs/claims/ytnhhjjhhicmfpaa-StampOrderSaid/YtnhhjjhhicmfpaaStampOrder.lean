/- StampOrder is proved for every input. -/
import Derived.Test.YtnhhjjhhicmfpaaLawKit
import Derived.Test.YtnhhjjhhicmfpaaStamp
import Derived.Test.YtnhhjjhhicmfpaaStampO
import Derived.Test.YtnhhjjhhicmfpaaOfCom
import Derived.Test.YtnhhjjhhicmfpaaLike
import Derived.Test.YtnhhjjhhicmfpaaOpsOpen
import Derived.Test.YtnhhjjhhicmfpaaIntEq
namespace Go.Proofs.Ytnhhjjhhicmfpaa
open Go.RowKit Go.Lib

/-- What Play leaves, opened. -/
def StampM.LeftO (l : List OpM) (w : World) (e : Ending) (w' : World) : Prop :=
  Below w.heap.size w w' ∧ ((RunM.check l ≠ 0 ∧ e = .returned (.tuple #[.agg #[.slice none 0 0, .slice none 0 0, .slice none 0 0], .int .i64 (RunM.check l)])) ∨
    (RunM.check l = 0 ∧ ∃ (ao bo : Option Addr) (c1 c2 : Nat), e = .returned (.tuple #[.agg #[.slice ao (StampM.run false l).run.length c1, .slice bo (StampM.deads (StampM.run false l) 12).length c2, .slice none 0 0], .int .i64 0]) ∧ OpsAt w' ao (StampM.run false l).run ∧ IntsAt w' bo (StampM.deads (StampM.run false l) 12)))
theorem stamp_leftO (l : List OpM) (ao : Option Addr) (cap : Nat) (w : World) (h : OpsAt w ao l) (hf : RunM.Fits l) :
    Calls Try.prog 18 #[.slice ao l.length cap, .bool false] w (StampM.LeftO l w) := by
  refine (stamp_any false l ao cap w h hf).mono ?_
  rintro e w' ⟨hb, ⟨hc, rfl⟩ | ⟨hc, v, v1, rfl, hr, hd⟩⟩
  · exact ⟨hb, Or.inl ⟨hc, rfl⟩⟩
  · obtain ⟨ao, c1, rfl, _, h2, _⟩ := OpsAt.own hr
    obtain ⟨bo, c2, rfl, _, h3, _⟩ := IntsAt.own hd
    exact ⟨hb, Or.inr ⟨hc, ao, bo, c1, c2, rfl, h2, h3⟩⟩
def StampM.ex : List OpM := [⟨1, 2, 3⟩, ⟨0, 1, 3⟩]
theorem stamp_ex (b cap : Nat) (w : World) (h : Blk w b 25 [.int .i64 1, .int .i64 2, .int .i64 3, .int .i64 0, .int .i64 1, .int .i64 3]) :
    Calls Try.prog 18 #[.slice (some ⟨b, 0, none⟩) 2 cap, .bool false] w fun e w' => Below w.heap.size w w' ∧ ∃ ao bo c1 c2, e = .returned (.tuple #[.agg #[.slice ao 2 c1, .slice bo 1 c2, .slice none 0 0], .int .i64 0]) ∧ IntsAt w' bo [0] := by
  refine (stamp_leftO StampM.ex (some ⟨b, 0, none⟩) cap w (Or.inr ⟨b, 0, rfl, h.lt, ?_⟩) ⟨by decide, by decide⟩).mono ?_
  · intro k hk
    match k, hk with
    | 0, _ => exact ⟨h.cell rfl, h.cell rfl, h.cell rfl⟩
    | 1, _ => exact ⟨h.cell rfl, h.cell rfl, h.cell rfl⟩
  · rintro e w' ⟨hb, ⟨hc, _⟩ | ⟨_, ao, bo, c1, c2, rfl, h1, h2⟩⟩
    · exact absurd (by decide) hc
    · exact ⟨hb, ao, bo, c1, c2, rfl, h2⟩
theorem RunM.check_fits {l : List OpM} (h : RunM.check l = 0) : RunM.Fits l := by
  obtain ⟨h1, h2, _⟩ := (RunM.check_iff l).1 h
  refine ⟨by omega, fun o ho => ?_⟩
  have := RunM.bad_zero (h2 o ho)
  omega
theorem StampM.seq_succ (k : Nat) : StampM.seq (k + 1) = StampM.seq k ++ [(k : Int)] := by simp [StampM.seq, List.range_succ]
theorem StampM.seq_len (k : Nat) : (StampM.seq k).length = k := by simp [StampM.seq]
theorem ints_zero (w : World) : IntsAt (w.alloc (.cells #[.int .i64 0] 3)) (some ⟨w.heap.size, 0, none⟩) [0] := by
  have hb := Blk.new w [.int .i64 0] 3
  refine Or.inr ⟨_, 0, rfl, hb.lt, ?_⟩
  intro k hk
  match k, hk with
  | 0, _ => exact hb.cell rfl

set_option maxRecDepth 20000 in
set_option maxHeartbeats 8000000 in
theorem stampOrder_calls (l : List OpM) (ao : Option Addr) (cap : Nat) (w : World) (h : OpsAt w ao l) (hf : RunM.Fits l) :
    Calls Try.prog 4 #[.slice ao l.length cap] w fun e w' => e = .returned (.bool true) ∧ Below w.heap.size w w' := by
  obtain ⟨i0, hi0, hz0, hz1, hz2⟩ := info_parts Try.infoI
  have H := box h; have Hf := box hf
  clear h hf
  go_enter Try.func4, Try.ntmps4
  go_wp2_with fail
  refine (op_any _ _ _ _).mono ?_
  rintro e w1 ⟨rfl, hb1⟩
  have HB1 := box hb1; clear hb1
  go_wp2_with fail
  refine (op_any _ _ _ _).mono ?_
  rintro e w2 ⟨rfl, hb2⟩
  have HB2 := box (below_tr HB1.out hb2); clear hb2
  go_wp2_with fail
  refine (stamp_ex w2.heap.size 2 _ (Blk.new w2 [.int .i64 1, .int .i64 2, .int .i64 3, .int .i64 0, .int .i64 1, .int .i64 3] _)).mono ?_
  rintro e w3 ⟨hb3, ro, bo, c1, c2, rfl, hat⟩
  have HB3 := box (below_tr (HB2.out.alloc HB2.out.size _) hb3)
  have HA := box hat
  clear hb3 hat
  have hs3 := HB3.out.size
  go_upto_region 2 with (fail)
  refine name_world (fun W => Below w.heap.size w W ∧ IntsAt W bo [0] ∧ Blk W w3.heap.size 39 [.slice ro 2 c1, .slice bo 1 c2, .slice none 0 0]) ⟨HB3.out.alloc hs3 _, HA.out.below ((Below.refl _ _).alloc (Nat.le_refl _) _) (Nat.le_refl _), Blk.new _ _ _⟩ ?_
  rintro W ⟨hbW, haW, hkW⟩
  have c0 := hkW.cell (i := 0) rfl
  have cc1 := hkW.cell (i := 1) rfl
  have HW := box hbW; have HA4 := box haW; have HK := box hkW
  clear hbW haW hkW HB3 HA hs3
  generalize w3.heap.size = B at *
  go_wp2_with fail
  refine (equalInts_same [0] bo _ c2 1 _ (HA4.out.below ((Below.refl _ _).alloc (Nat.le_refl _) _) (Nat.le_refl _)) (ints_zero W) (by decide)).mono ?_
  rintro e w4 ⟨rfl, n4, rfl⟩
  have c04 : ((W.alloc (.cells #[.int .i64 0] 3)).drewN n4).cell? ⟨B, 0, none⟩ = some (.slice ro 2 c1) := (HK.out.alloc (.cells #[.int .i64 0] 3)).cell (i := 0) rfl
  have HB4 : Box (Below w.heap.size w ((W.alloc (.cells #[.int .i64 0] 3)).drewN n4)) := ⟨below_tr (HW.out.alloc HW.out.size _) ⟨rfl, rfl, rfl, Nat.le_refl _, fun _ _ => rfl⟩⟩
  generalize (W.alloc (.cells #[.int .i64 0] 3)).drewN n4 = W4 at *
  clear c0 cc1 HW HA4 HK
  go_wp2_with fail
  refine (stamp_leftO l ao cap _ (H.out.below HB4.out (Nat.le_refl _)) Hf.out).mono ?_
  rintro e w5 ⟨hb5, ⟨hc, rfl⟩ | ⟨hc, ro5, bo5, c5, d5, rfl, hR, hD⟩⟩
  · have HB5 := box (below_tr HB4.out hb5)
    have hs5 := HB5.out.size
    generalize RunM.check l = c at *
    have g1 : (c != 0) = true := by simpa using hc
    clear hb5 hc c04
    go_wp2_with fail
    go_ret
    exact ⟨rfl, HB5.out.alloc hs5 _⟩
  have HB5 := box (below_tr HB4.out hb5)
  have hs5 := HB5.out.size
  have HX := box (StampM.order_law hc)
  have HHc := box hc
  have HR := box hR
  obtain ⟨R, HRR⟩ : ∃ R, Box ((StampM.run false l).run = R) := ⟨_, ⟨rfl⟩⟩
  rw [HRR.out] at HX HR ⊢
  generalize (StampM.deads (StampM.run false l) 12).length = dn at *
  clear hb5 hR hD c04 hc
  have hR200 := ((RunM.check_iff R).1 HX.out.1).1
  go_upto_region 5 with (fail)
  refine name_world (fun W => Below w.heap.size w W ∧ OpsAt W ro5 R ∧ Blk W w5.heap.size 39 [.slice ro5 R.length c5, .slice bo5 dn d5, .slice none 0 0]) ⟨HB5.out.alloc hs5 _, HR.out.below ((Below.refl _ _).alloc (Nat.le_refl _) _) (Nat.le_refl _), Blk.new _ _ _⟩ ?_
  rintro W6 ⟨hbW, haW, hkW⟩
  have c60 := hkW.cell (i := 0) rfl
  have HW6 := box hbW; have HA6 := box haW; have HK6 := box hkW
  clear hbW haW hkW HB5 HR hs5
  generalize w5.heap.size = B5 at *
  go_wp2_with fail
  refine (ofCom_any R ro5 c5 W6 HA6.out (by omega)).mono ?_
  rintro e w7 ⟨v7, rfl, hown7, hb7⟩
  obtain ⟨mo, mc, rfl, _, hm, hmnil, _⟩ := OpsAt.own hown7
  have HM := box hm; have HMn := box hmnil
  have HB7 := box (below_tr HW6.out hb7)
  have HK7 := box (HK6.out.after hb7)
  have HA7 := box (HA6.out.below hb7 (Nat.le_refl _))
  have HmL : Box ((RunM.ofCom R).length ≤ 200) := ⟨((RunM.check_iff _).1 (RunM.ofCom_check HX.out.1)).1⟩
  have HmF : Box (RunM.Fits (RunM.ofCom R)) := ⟨RunM.check_fits (RunM.ofCom_check HX.out.1)⟩
  obtain ⟨m, Hm⟩ : ∃ m, Box (RunM.ofCom R = m) := ⟨_, ⟨rfl⟩⟩
  rw [Hm.out] at HM HX HmL HmF ⊢
  clear hb7 hm hmnil hown7 c60
  have hs7 := HB7.out.size
  go_wp2_with fail
  go_loopw [8, 48] (fun t8 t48 w8 => ∃ k : Nat, k ≤ 12 ∧ t48 = .int .i64 (k : Int) ∧ w8.ownsRow w7.heap.size 3 1 t8 (StampM.seq k).length (intVals (StampM.seq k)) ∧ Box (Below w7.heap.size w7 w8)) (fun _ t48 _ => 12 - (intOf t48).toNat)
  case atStart => exact ⟨0, by omega, rfl, World.ownsRow_nil _ _ _ _, ⟨Below.refl _ _⟩⟩
  case round =>
    obtain ⟨k, hk, rfl, hown, Hb8⟩ := hrel
    have hbs := Hb8.out.size
    by_cases hlt12 : k < 12
    · have Hown := box hown
      have hown2 := hown.alloc (.cells #[.int .i64 (k : Int)] 3)
      have hseq := StampM.seq_len k
      have HT := box (StampM.seq_succ k)
      generalize StampM.seq k = ms at *
      clear hown
      go_wp2_with (at_builtin; go_must (refine wpList_append_own _ rfl _ _ 23 rfl w7.heap.size 3 i0 _ 1 8 Try.underlying23 hi0 hz0 hz1 hz2 rfl (by decide) _ _ _ rfl hown2 ⟨wr.heap.size, 0, none⟩ 1 1 [.int .i64 (k : Int)] rfl rfl (cells_new wr [.int .i64 (k : Int)] 3) (by simp [Value.oneCell']) (by unfold maxLen; omega) (by omega) (by simp; omega) ?_))
      intro v' w9 hown3 hgrow _
      have hB9 : Below w7.heap.size w7 w9 := (Hb8.out.alloc hbs _).grown hgrow (by simp; omega) (fun b hb => (Hown.out.lt b hb).1)
      have HB9 := box hB9; have HO := box hown3
      clear hown3 hgrow hown2 hB9
      go_wp2_with fail
      go_roundw
      case rel =>
        refine ⟨k + 1, hlt12, by go_num, ?_, HB9⟩
        rw [HT.out, intVals_append, List.length_append, hseq]
        exact HO.out
      case measure => simp [intOf]; omega
    · obtain rfl : k = 12 := by omega
      obtain ⟨bo3, c3, rfl, _, hat3, _, _⟩ := IntsAt.own hown
      have HI := box hat3
      have HP9 := box (HK7.out.after Hb8.out)
      have HR9 := box (HA7.out.below Hb8.out (Nat.le_refl _))
      have HM9 := box (HM.out.below Hb8.out (Nat.le_refl _))
      have HB9 := box (below_tr HB7.out Hb8.out)
      have Hlen : Box ((StampM.seq 12).length = 12) := ⟨rfl⟩
      have hmL := HmL.out
      clear hown hat3
      go_wp2_with fail
      refine (inTurn_any m (StampM.seq 12) mo bo3 mc c3 _ HM9.out HI.out HmL.out (by rw [StampM.seq_len]; omega)).mono ?_
      rintro e w11 ⟨v, rfl, hown11, hb11⟩
      have HB11 := box (below_tr HB9.out hb11)
      obtain ⟨ao4, c4, rfl, _, hat4, hnil4, _⟩ := OpsAt.own hown11
      have HA4 := box hat4; have Hn4 := box hnil4
      have HM11 := box (HM9.out.below hb11 (Nat.le_refl _))
      have HP11 := box (HP9.out.after hb11)
      have HR11 := box (HR9.out.below hb11 (Nat.le_refl _))
      have HF4 : Box (RunM.Fits (StampM.inTurn m (StampM.seq 12))) := ⟨by
        refine RunM.check_fits ?_
        have h1 := HX.out.2.1
        have h2 : RunM.check m = 0 := by rw [← Hm.out]; exact RunM.ofCom_check HX.out.1
        unfold RunM.likeOk at h1
        rw [h2, if_neg (by simp)] at h1
        exact h1⟩
      clear hb11 hown11 hat4 hnil4
      have HLk := box HX.out.2.2
      have HOk := box HX.out.2.1
      obtain ⟨T, HTT⟩ : ∃ T, Box (StampM.inTurn m (StampM.seq 12) = T) := ⟨_, ⟨rfl⟩⟩
      rw [HTT.out] at HA4 HF4 HLk HOk ⊢
      go_wp2_with fail
      refine (like_any m T mo ao4 mc c4 _ HM11.out HA4.out HMn.out Hn4.out HmF.out HF4.out).mono ?_
      rintro e w12 ⟨rfl, hb12⟩
      rw [HLk.out, HOk.out]
      have HB12 := box (below_tr HB11.out hb12)
      have HP12 := box (HP11.out.after hb12)
      have HR12 := box (HR11.out.below hb12 (Nat.le_refl _))
      have p0 := HP12.out.cell (i := 0) rfl
      clear hb12
      go_wp2_with fail
      refine (runCheck_any R ro5 c5 _ HR12.out (RunM.check_fits HX.out.1)).mono ?_
      rintro e w13 ⟨rfl, hb13⟩
      rw [HX.out.1]
      have HB13 := box (below_tr HB12.out hb13)
      have HP13 := box (HP12.out.after hb13)
      have p2 := HP13.out.cell (i := 2) rfl
      clear hb13 p0
      go_wp2_with fail
      go_ret
      exact ⟨by simp, HB13.out⟩
namespace lawStampOrder
open Go.ChangeShapes Go.WideShapes Go.ChangeAt Go.RowKit Go.ChangeMaps

set_option maxRecDepth 100000 in
theorem lifted (os : Os) (started : os.Started) (H : Type) (enc : TypeId × Value → H) :
    ReturnsInHanded {} Try.checked os 4 .any (Rows.stampOrderSpec.pre6 enc Try.prog Try.f4 [] false) (Rows.stampOrderSpec.post enc Try.prog Try.f4 false true false false) := by
  refine LawKit.law_lifted started (by kernel_rfl) Try.func4 rfl
    (fun ds h => by
      match ds, h with
      | [_], _ => rfl)
    rfl Try.underlying4 (by intro t ht; exact of_decide_eq_true (p := Try.prog.readableRec t = true ∧ t < Try.prog.types.size) (by revert t ht; decide +kernel))
    (ChangeSpec.witness6 (enc := enc) (C := Try.checked) false ⟨#[], #[.slice none 0 0], []⟩ 8 (by kernel_rfl) (by kernel_rfl) (by kernel_rfl) (by kernel_rfl)) ?_
  intro W base args ds ps hval hA hsz hlt hfz
  have hA' := hA
  rw [Try.params4] at hA hval
  obtain ⟨v0, vs0, d0, ds0, p0, q0, hargs, rfl, rfl, h0, r0⟩ := trodAll_cons hA
  obtain ⟨rfl, rfl, rfl⟩ := trodAll_nil r0
  obtain rfl : args = #[v0] := by cases args; simp_all
  obtain ⟨ao, cap, ls, rfl, hnil, hat, hfits, _, _⟩ := open_ops (hval 0 _ _ rfl rfl) h0 (Open.weights_bound hsz (j := 0) (by rw [Try.params4]; rfl) rfl)
  refine (stampOrder_calls ls ao cap W hat hfits).mono ?_
  rintro e W' ⟨rfl, hb⟩
  exact ⟨rfl, hb⟩

theorem proved : Rows.StampOrderSaid :=
  OpenClaim.holds_of_wide 4 Try.f4 rfl rfl rfl rfl rfl rfl rfl ⟨rfl, rfl, rfl, rfl, rfl⟩ rfl rfl rfl rfl rfl (by kernel_rfl) Try.func4 (by kernel_rfl)
    (of_decide_eq_true (by kernel_rfl)) (by unfold Func.isWrapper; first | (rw [if_pos (by decide +kernel)]; kernel_rfl) | (rw [if_neg (by decide +kernel)]; exact ⟨rfl, rfl⟩))
    (fun os started H enc _ => lifted os started H enc)
end lawStampOrder
end Go.Proofs.Ytnhhjjhhicmfpaa
