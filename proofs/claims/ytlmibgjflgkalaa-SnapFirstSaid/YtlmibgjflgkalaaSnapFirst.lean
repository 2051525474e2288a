/- SnapFirst is proved for every input: no condition stands ahead of it. -/
import Derived.Test.YtlmibgjflgkalaaLawKit
import Derived.Test.YtlmibgjflgkalaaSnapL
import Derived.Test.YtlmibgjflgkalaaFirstD
import Derived.Test.YtlmibgjflgkalaaFirstL
import Derived.Test.YtlmibgjflgkalaaSlOps
import Derived.Test.YtlmibgjflgkalaaOpsOpen
import Derived.Test.YtlmibgjflgkalaaOp
import Derived.Deep.RegionHeld3
import Derived.Maps.OwnOps
import Derived.Maps.OwnSet
namespace Go.Proofs.Ytlmibgjflgkalaa
open Go.RowKit Go.Lib Go.Maps

theorem FirstM.law : Keyed Try.prog 3 := int_keyed Try.underlying3
theorem FirstM.zero (w : World) : (zeroValue 3).run Try.prog w = .ok (.int .i64 0) w := by kernel_rfl

theorem FirstM.infoI : (Try.prog.info? 3).map (fun i => (i.zero, i.size, i.bytes)) = some (some (.int .i64 0), 1, 8) := by kernel_rfl
theorem FirstM.own_below {N : Nat} {w w' : World} {k : TypeId} {R : Value → Option (DataW Unit × List MemPlace)} {b n : Nat} {D : DataW Unit} (h : w.ownsMap Try.prog k R b n D) (hb : Below N w w') (hN : b < N) : w'.ownsMap Try.prog k R b n D := by
  obtain ⟨es, clock, hbk, F, hs, hD⟩ := h
  exact ⟨es, clock, (hb.block b hN).trans hbk, F, hs, hD⟩
theorem FirstM.look {w : World} {b n : Nat} {D : DataW Unit} {t : Int} {f : Nat} (h : w.ownsMap Try.prog 3 (plainElem (H := Unit) Try.prog 3) b n D) (hkey : keyOf Try.prog 3 (.int .i64 t) = some (.int .i64 t)) (hat : D.atKey (.int .i64 t) (.lit (.int .i64 0)) = .lit (.int .i64 (f : Int))) :
    (Instr.lookup 61 (.map (some b)) (.int .i64 t) false).run Try.prog w = .ok (.int .i64 (f : Int)) w := by
  obtain ⟨c, hrun, hc, _⟩ := h.lookup_int FirstM.law Try.underlying61 Try.underlying3 (FirstM.zero _) hkey
  rw [hat] at hc
  have hc2 : (f : Int) = c := by simpa using hc
  rw [hc2]; exact hrun
def SnapM.fourF : List OpM := [⟨0, 2, 1⟩, ⟨1, 2, 1⟩, ⟨0, 3, 0⟩, ⟨1, 3, 0⟩]
theorem snap_fourF (b cap : Nat) (w : World) (h : Blk w b 42 [.int .i64 0, .int .i64 2, .int .i64 1, .int .i64 1, .int .i64 2, .int .i64 1, .int .i64 0, .int .i64 3, .int .i64 0, .int .i64 1, .int .i64 3, .int .i64 0]) :
    Calls Try.prog 27 #[.slice (some ⟨b, 0, none⟩) 4 cap] w fun e w' => Below w.heap.size w w' ∧ ∃ g c1, e = .returned (.tuple #[.slice (some ⟨g, 0, none⟩) 4 c1, .int .i64 0]) ∧ g < w'.heap.size ∧ w'.cell? ⟨g, 4, none⟩ = some (.bool true) ∧ w'.cell? ⟨g, 6, none⟩ = some (.bool false) := by
  refine (snap_left SnapM.fourF (some ⟨b, 0, none⟩) cap w (Or.inr ⟨b, 0, rfl, h.lt, ?_⟩) ⟨by decide, by decide⟩).mono ?_
  · intro k hk
    match k, hk with
    | 0, _ => exact ⟨h.cell rfl, h.cell rfl, h.cell rfl⟩
    | 1, _ => exact ⟨h.cell rfl, h.cell rfl, h.cell rfl⟩
    | 2, _ => exact ⟨h.cell rfl, h.cell rfl, h.cell rfl⟩
    | 3, _ => exact ⟨h.cell rfl, h.cell rfl, h.cell rfl⟩
  · rintro e w' ⟨hb, D, ao, c1, c, hc, rfl, h1, _, h3⟩
    have : c = 0 := hc.trans (by decide)
    subst this
    have e4 : SnapM.play SnapM.fourF = [⟨true, -1⟩, ⟨true, -1⟩, ⟨true, -1⟩, ⟨false, -1⟩] := by decide
    obtain rfl : D = [⟨true, -1⟩, ⟨true, -1⟩, ⟨true, -1⟩, ⟨false, -1⟩] := (h3 rfl).trans e4
    obtain ⟨g, rfl, hg, hrow⟩ := h1.resolve_left (by simp)
    exact ⟨hb, g, c1, rfl, hg, (hrow 2 (by decide)).1, (hrow 3 (by decide)).1⟩

set_option maxRecDepth 20000 in
set_option maxHeartbeats 8000000 in
theorem snapFirst_calls (l : List OpM) (ao : Option Addr) (cap : Nat) (w : World) (h : OpsAt w ao l) (hf : RunM.Fits l) (hcap : l.length ≤ cap) :
    Calls Try.prog 6 #[.slice ao l.length cap] w fun e w' => e = .returned (.bool true) ∧ Below w.heap.size w w' := by
  have H := box h; have Hf := box hf
  have hfl := hf.1
  clear h hf
  have hmm := @run_makeMap Try.prog
  go_enter Try.func6, Try.ntmps6
  go_wp2_with fail
  refine (op_any _ _ _ _).mono ?_
  rintro e w1 ⟨rfl, hb1⟩
  have HB1 := box hb1; clear hb1
  go_wp2_with fail
  refine (op_any _ _ _ _).mono ?_
  rintro e w2 ⟨rfl, hb2⟩
  have HB2 := box (below_tr HB1.out hb2); clear hb2
  go_wp2_with fail
  refine (op_any _ _ _ _).mono ?_
  rintro e w3 ⟨rfl, hb3⟩
  have HB3 := box (below_tr HB2.out hb3); clear hb3
  go_wp2_with fail
  refine (op_any _ _ _ _).mono ?_
  rintro e w4 ⟨rfl, hb4⟩
  have HB4 := box (below_tr HB3.out hb4); clear hb4 HB1 HB2 HB3
  go_wp2_with fail
  refine (snap_fourF w4.heap.size 4 _ (Blk.new w4 [.int .i64 0, .int .i64 2, .int .i64 1, .int .i64 1, .int .i64 2, .int .i64 1, .int .i64 0, .int .i64 3, .int .i64 0, .int .i64 1, .int .i64 3, .int .i64 0] _)).mono ?_
  rintro e w5 ⟨hb5, g, c1, rfl, hg, hd1, hd3⟩
  have HB5 := box (below_tr (HB4.out.alloc HB4.out.size _) hb5); clear hb5
  go_wp2_with fail
  refine (snap_left l ao cap _ (H.out.below HB5.out (Nat.le_refl _)) Hf.out).mono ?_
  rintro e w6 ⟨hb6, D, dao, c1, c, hc, rfl, hat, hn0, h0D⟩
  have HB6 := box (below_tr HB5.out hb6)
  have HC := box hc; have HAT := box hat; have HN := box hn0; have HD := box h0D
  have hs6 := HB6.out.size
  clear hb6 hc hat hn0 h0D hd1 hd3
  by_cases h0 : c = 0
  case neg =>
    have g1 : (c == 0) = false := by simp [h0]
    have g2 : (c != 0) = true := by simp [h0]
    obtain rfl := HN.out h0
    clear h0
    go_wp2_with fail
    go_ret
    exact ⟨by simp, HB6.out⟩
  subst h0
  have HOK := box (RunM.check_ok HC.out.symm)
  obtain rfl := HD.out rfl
  have hl200 := HOK.out.1
  clear HN HD
  have hDl : (SnapM.play l).length = l.length := SnapM.play_len l
  rw [hDl]
  have HDl := box hDl
  clear hDl
  go_wp2_with fail
  have HMP : Box ((w6.alloc (.map #[] 0)).ownsMap Try.prog 3 (plainElem Try.prog 3) w6.heap.size 0 (FirstM.D l 0)) := ⟨World.ownsMap_made _ _ _ _⟩
  obtain ⟨Bm, HBm⟩ : ∃ Bm, Box (w6.heap.size = Bm) := ⟨_, ⟨rfl⟩⟩
  rw [HBm.out] at HMP ⊢
  go_loopw [75] (fun t75 wr => ∃ i : Nat, i ≤ l.length ∧ t75 = .int .i64 (i : Int) ∧ Box (wr.ownsMap Try.prog 3 (plainElem Try.prog 3) Bm i (FirstM.D l i)) ∧ Box (Below w6.heap.size w6 wr)) (fun t75 _ => l.length - (intOf t75).toNat)
  case atStart => exact ⟨0, Nat.zero_le _, rfl, HMP, ⟨(Below.refl _ _).alloc (Nat.le_refl _) _⟩⟩
  case round =>
    obtain ⟨i, hi, rfl, HM, Hb⟩ := hrel
    have HBw := box (below_tr HB6.out Hb.out)
    by_cases hlt : i < l.length
    case neg =>
      go_wp2_with fail
      go_ret
      exact ⟨by simp, HBw.out⟩
    have hbs := Hb.out.size
    obtain ⟨b, off, rfl, hb6, hrow6⟩ := ((H.out.below HB6.out (Nat.le_refl _)).resolve_left (by intro h; rw [h] at hlt; simp at hlt))
    obtain ⟨db, rfl, hdb6, hdrow6⟩ := (HAT.out.resolve_left (by intro h; have := HDl.out; rw [h] at this; simp at this; omega))
    have HRow : Box (∀ wx, Below w6.heap.size w6 wx → ∀ k (h : k < l.length), wx.cell? ⟨b, off + k * 3, none⟩ = some (.int .i64 l[k].tx) ∧ wx.cell? ⟨b, off + k * 3 + 1, none⟩ = some (.int .i64 l[k].kind) ∧ wx.cell? ⟨b, off + k * 3 + 2, none⟩ = some (.int .i64 l[k].item)) := ⟨fun wx hx k h => by
      obtain ⟨h1, h2, h3⟩ := hrow6 k h
      exact ⟨(hx.cell (p := ⟨b, off + k * 3, none⟩) hb6).trans h1, (hx.cell (p := ⟨b, off + k * 3 + 1, none⟩) hb6).trans h2, (hx.cell (p := ⟨b, off + k * 3 + 2, none⟩) hb6).trans h3⟩⟩
    have HDrow : Box (∀ wx, Below w6.heap.size w6 wx → ∀ k (h : k < l.length), wx.cell? ⟨db, k * 2, none⟩ = some (.bool (SnapM.tell l k h).ok)) := ⟨fun wx hx k hk => by
      have := (hdrow6 k (by rw [HDl.out]; exact hk)).1
      rw [SnapM.play_at l k hk] at this
      exact (hx.cell (p := ⟨db, k * 2, none⟩) hdb6).trans this⟩
    obtain ⟨hc0, hc1, hc2⟩ := HRow.out _ Hb.out i hlt
    have hb : b < wr.heap.size := by omega
    have hdb : db < wr.heap.size := by omega
    clear hrow6 hdrow6
    obtain ⟨t1, t2, _⟩ := RunM.bad_zero (HOK.out.2.2 _ (List.getElem_mem hlt))
    have HDs : Box (FirstM.D l (i + 1) = if Maps.has (FirstM.D l i) (.int .i64 l[i].tx) = true then FirstM.D l i else (FirstM.D l i).put (.int .i64 l[i].tx) (.lit (.int .i64 (i : Int)))) := ⟨by
      show (if h : i < l.length then _ else _) = _
      rw [dif_pos hlt]⟩
    generalize hoo : l[i] = o at *
    have Hoo := box hoo
    clear hoo
    have hkey : keyOf Try.prog 3 (.int .i64 o.tx) = some (.int .i64 o.tx) := keyOf_int_mk Try.underlying3 (WalkArith.wf_i64 (by omega))
    go_upto_region 12 with (fail)
    refine name_world (fun W => Below wr.heap.size wr W ∧ Blk W wr.heap.size 42 [.int .i64 o.tx, .int .i64 o.kind, .int .i64 o.item] ∧ W.ownsMap Try.prog 3 (plainElem (H := Unit) Try.prog 3) Bm i (FirstM.D l i)) ⟨(Below.refl _ _).alloc (Nat.le_refl _) _, Blk.new _ _ _, HM.out.alloc _⟩ ?_
    rintro W ⟨hbW, hkW, hmW⟩
    have HW := box hbW; have HK := box hkW; have HMW := box hmW
    have x0 := hkW.cell (i := 0) rfl
    obtain ⟨Bx, HBx⟩ : ∃ Bx, Box (wr.heap.size = Bx) := ⟨_, ⟨rfl⟩⟩
    rw [HBx.out] at HK x0 ⊢
    clear hbW hkW hmW hc0 hc1 hc2
    go_upto_if 88 with (first | (at_lookup; refine wpList_lookup_own_ok_int _ rfl _ _ 61 rfl 3 3 .i64 FirstM.law Try.underlying61 Try.underlying3 (FirstM.zero _) Bm i _ rfl HMW.out _ _ rfl hkey ?_; intro c hat hwc) | fail)
    have hBm : w6.heap.size ≤ Bm := by have := HBm.out; omega
    have hBmr : Bm < wr.heap.size := HM.out.lt
    have hBmx : Bm ≠ Bx := by have := HBx.out; omega
    have hsW := HW.out.size
    clear hat hwc
    generalize hhs : Maps.has (FirstM.D l i) (.int .i64 o.tx) = hs at *
    have Hhs := box hhs
    clear hhs
    go_cut [] (fun wx => Below w6.heap.size w6 wx ∧ Blk wx Bx 42 [.int .i64 o.tx, .int .i64 o.kind, .int .i64 o.item] ∧ wx.ownsMap Try.prog 3 (plainElem (H := Unit) Try.prog 3) Bm (i + 1) (FirstM.D l (i + 1)))
    case first =>
      cases hs with
      | true =>
        go_wp2_with fail
        go_meet
        have HD2 : FirstM.D l (i + 1) = FirstM.D l i := by have := HDs.out; simpa using this
        exact ⟨Hb.out.trans (HW.out.mono hbs), HK.out, by rw [HD2]; exact HMW.out.mono (by omega)⟩
      | false =>
        go_wp2_with (first | (at_mapUpdate; refine wpList_mapUpdate_own _ rfl _ _ _ 61 rfl 3 3 FirstM.law Try.underlying61 _ Bm i _ rfl HMW.out (by unfold maxLen; omega) _ _ _ rfl rfl hkey _ [] (plainElem_int Try.underlying3 (WalkArith.wf_i64 (by omega))) ?_; intro w7 hown7 hgrow7) | fail)
        go_meet
        have HD2 : FirstM.D l (i + 1) = (FirstM.D l i).put (.int .i64 o.tx) (.lit (.int .i64 (i : Int))) := by have := HDs.out; simpa using this
        exact ⟨(Hb.out.trans (HW.out.mono hbs)).grown hgrow7 (Nat.le_trans hbs hsW) (fun j hj => by cases hj; exact hBm), HK.out.grown hgrow7 (by simpa using hBmx), by rw [HD2]; exact hown7⟩
    case rest =>
    obtain ⟨hbc, hkc, hmc⟩ := hcut
    have HbC := box hbc; have HKC := box hkc; have HMC := box hmc
    have y0 := hkc.cell (i := 0) rfl
    have y1 := hkc.cell (i := 1) rfl
    have hsC := hbc.size
    have hlC := hkc.lt
    clear hbc hkc hmc x0 HK HMW HW hsW HM HDs
    by_cases hk : o.kind = 3
    case neg =>
      have g1 : (o.kind == 3) = false := by simp [hk]
      have g2 : (o.kind != 3) = true := by simp [hk]
      clear hk
      go_wp2_with fail
      go_roundw
      case rel => exact ⟨i + 1, hlt, by go_num, HMC, HbC⟩
      case measure => simp [intOf]; omega
    have g1 : (o.kind == 3) = true := by simp [hk]
    have g2 : (o.kind != 3) = false := by simp [hk]
    have HK3 := box hk
    clear hk
    have hic : (i : Int) ≤ (cap : Int) := by omega
    have hi0 : (0 : Int) ≤ (i : Int) := by omega
    obtain ⟨i0, hi0', hz0, hz1, hz2⟩ := info_parts FirstM.infoI
    have hdok := HDrow.out wc HbC.out i hlt
    obtain ⟨f, HF⟩ : ∃ f : Nat, Box ((FirstM.D l (i + 1)).atKey (.int .i64 o.tx) (.lit (.int .i64 0)) = .lit (.int .i64 (f : Int)) ∧ FirstM.lost l (FirstM.mine l o.tx i) f i = !(SnapM.tell l i hlt).ok) := by
      obtain ⟨f, hfl', hfi, hft, hf0, hat⟩ := FirstM.at_ l o.tx (i + 1) (by omega) ((FirstM.has l o.tx (i + 1) (by omega)).2 ⟨i, hlt, by omega, by rw [Hoo.out]⟩)
      exact ⟨f, ⟨hat _, by
        have := FirstM.lost_ok HOK.out.2.1 HOK.out.2.2 (i := i) (f := f) hlt (by rw [Hoo.out]; exact HK3.out) (by omega) (by rw [Hoo.out]; exact hft) (fun j hj hjf => by rw [Hoo.out]; exact hf0 j hj hjf)
        rw [Hoo.out] at this
        exact this⟩⟩
    clear hdok
    go_wp2_with fail
    clear y1
    go_loopw [13, 100] (fun t13 t100 w2 => ∃ k : Nat, k ≤ i ∧ t100 = .int .i64 (k : Int) ∧ Box (w2.ownsRow (Bm + 1) 3 1 t13 (FirstM.mine l o.tx k).length (intVals (FirstM.mine l o.tx k))) ∧ Box (Below w6.heap.size w6 w2) ∧ Box (Blk w2 Bx 42 [.int .i64 o.tx, .int .i64 o.kind, .int .i64 o.item]) ∧ Box (w2.ownsMap Try.prog 3 (plainElem (H := Unit) Try.prog 3) Bm (i + 1) (FirstM.D l (i + 1)))) (fun _ t100 _ => i - (intOf t100).toNat)
    case atStart => exact ⟨0, Nat.zero_le _, rfl, ⟨by rw [FirstM.mine_zero]; exact World.ownsRow_nil _ _ _ _⟩, HbC, HKC, HMC⟩
    case round =>
      obtain ⟨k, hk, rfl, HO, Hb2, HK2, HM2⟩ := hrel
      have x0 := HK2.out.cell (i := 0) rfl
      have hs2 := Hb2.out.size
      have hl2 := HK2.out.lt
      have hm2 := HM2.out.lt
      by_cases hlt2 : k < i
      case neg =>
        have hki : k = i := by omega
        subst hki
        obtain ⟨mao, mcap, rfl, hn, hIA, _, hmc⟩ := IntsAt.own HO.out
        have HIA := box hIA
        have hml := FirstM.mine_len l o.tx k
        generalize FirstM.mine l o.tx k = ms at *
        clear hn hIA x0 hlt2 HO y0 hlC hk
        go_wp2_with fail
        go_loopw [16, 124] (fun t16 t124 w3 => ∃ m : Nat, m ≤ k ∧ t124 = .int .i64 (m : Int) ∧ t16 = .bool (FirstM.lost l ms f m) ∧ Box (Below wr.heap.size wr w3)) (fun _ t124 _ => k - (intOf t124).toNat)
        case atStart => exact ⟨0, Nat.zero_le _, rfl, rfl, ⟨Below.refl _ _⟩⟩
        case round =>
          obtain ⟨m, hm, rfl, rfl, Hb3⟩ := hrel
          have HB3 := box (Hb2.out.trans (Hb3.out.mono hs2))
          have hs3 := HB3.out.size
          have hs23 := Hb3.out.size
          by_cases hlt3 : m < k
          case neg =>
            have hmk : m = k := by omega
            subst hmk
            have hdk := HDrow.out _ HB3.out m hlt
            have hlo := HF.out.2
            have HME := box (FirstM.own_below HM2.out Hb3.out hm2)
            rw [hlo]
            generalize (SnapM.tell l m hlt).ok = ok at *
            clear hlo hm
            cases ok with
            | true =>
              go_wp2_with fail
              go_roundw
              case rel => exact ⟨m + 1, hlt, by go_num, HME, HB3⟩
              case measure => simp [intOf]; omega
            | false =>
              go_wp2_with fail
              go_roundw
              case rel => exact ⟨m + 1, hlt, by go_num, HME, HB3⟩
              case measure => simp [intOf]; omega
          have hml3 : m < l.length := by omega
          have hm3 : (m : Int) < (k : Int) := by omega
          obtain ⟨c0, c1, c2⟩ := HRow.out _ HB3.out m hml3
          have hdm := HDrow.out _ HB3.out m hml3
          have Hno := box (FirstM.lost_no l ms f m hml3)
          have Hyes := box (FirstM.lost_yes l ms f m hml3)
          have HG : Box (FirstM.guard l f m hml3 = ((l[m].kind == 3) && ((SnapM.tell l m hml3).ok && decide (f < m)))) := ⟨rfl⟩
          generalize FirstM.lost l ms f m = lo at *
          generalize (SnapM.tell l m hml3).ok = ok at *
          generalize l[m] = p at *
          go_upto_region 27 with (fail)
          have hdbw : db < wr.heap.size := by omega
          refine name_world (fun W => Below wr.heap.size wr W ∧ Blk W wr.heap.size 42 [.int .i64 p.tx, .int .i64 p.kind, .int .i64 p.item]) ⟨(Below.refl _ _).alloc (Nat.le_refl _) _, Blk.new _ _ _⟩ ?_
          rintro W3 ⟨hbW, hpW⟩
          have HbW := box (HB3.out.trans (hbW.mono hs3))
          have Hb3W := box (Hb3.out.trans (hbW.mono hs23))
          have HKW := box ((HK2.out.below Hb3.out hl2).after hbW)
          have HMW := box (FirstM.own_below (FirstM.own_below HM2.out Hb3.out hm2) hbW (Nat.lt_of_lt_of_le hm2 hs23))
          have HIW := box ((HIA.out.below Hb3.out (Nat.le_refl _)).below hbW (Nat.le_refl _))
          have hsW3 := HbW.out.size
          have x0 := HKW.out.cell (i := 0) rfl
          have y0 := hpW.cell (i := 0) rfl
          have y1 := hpW.cell (i := 1) rfl
          have HPW := box hpW
          have hlp := hpW.lt
          have hrun := FirstM.look HMW.out hkey HF.out.1
          have hd3 : W3.cell? ⟨db, m * 2, none⟩ = some (.bool ok) := (hbW.cell (p := ⟨db, m * 2, none⟩) hdbw).trans hdm
          obtain ⟨Bp, HBp⟩ : ∃ Bp, Box (wr.heap.size = Bp) := ⟨_, ⟨rfl⟩⟩
          rw [HBp.out] at y0 y1 HPW hlp ⊢
          clear hbW hpW c0 c1 c2 hdm hdbw
          cases q1 : (p.kind == 3) with
          | false =>
            have Hn2 := box (Hno.out (by rw [HG.out, q1]; rfl))
            clear HG Hno Hyes
            go_wp2_with fail
            go_roundw
            case rel => exact ⟨m + 1, hlt3, by go_num, by rw [Hn2.out], Hb3W⟩
            case measure => simp [intOf]; omega
          | true =>
            cases ok with
            | false =>
              have Hn2 := box (Hno.out (by rw [HG.out]; simp))
              clear HG Hno Hyes
              go_wp2_with fail
              go_roundw
              case rel => exact ⟨m + 1, hlt3, by go_num, by rw [Hn2.out], Hb3W⟩
              case measure => simp [intOf]; omega
            | true =>
              cases q3 : decide (f < m) with
              | false =>
                have Hn2 := box (Hno.out (by rw [HG.out, q3]; simp))
                clear HG Hno Hyes
                go_wp2_with fail
                go_roundw
                case rel => exact ⟨m + 1, hlt3, by go_num, by rw [Hn2.out], Hb3W⟩
                case measure => simp [intOf]; omega
              | true =>
                have Hy2 := box (Hyes.out (by rw [HG.out, q1, q3]; rfl))
                clear HG Hno Hyes
                go_wp2_with fail
                clear x0 hrun hd3 y1
                go_loopw [16, 151] (fun t16 t151 w4 => ∃ n : Nat, n ≤ m ∧ t151 = .int .i64 (n : Int) ∧ t16 = .bool (lo || (l.take n).any (FirstM.touch ms p.tx)) ∧ Box (Below W3.heap.size W3 w4)) (fun _ t151 _ => m - (intOf t151).toNat)
                case atStart => exact ⟨0, Nat.zero_le _, rfl, by simp, ⟨Below.refl _ _⟩⟩
                case round =>
                  obtain ⟨n, hn, rfl, rfl, Hb4⟩ := hrel
                  have HB4 := box (HbW.out.trans (Hb4.out.mono hsW3))
                  have hs4 := HB4.out.size
                  have hs34 := Hb4.out.size
                  by_cases hlt4 : n < m
                  case neg =>
                    have hnm : n = m := by omega
                    subst hnm
                    have HE := box (Hb3W.out.trans (Hb4.out.mono (Nat.le_trans hs23 (by have := HBp.out; omega))))
                    rw [← Hy2.out]
                    clear hn
                    go_wp2_with fail
                    go_roundw
                    case rel => exact ⟨n + 1, hlt3, by go_num, rfl, HE⟩
                    case measure => simp [intOf]; omega
                  have hnl : n < l.length := by omega
                  have hn3 : (n : Int) < (m : Int) := by omega
                  obtain ⟨d0, d1, d2⟩ := HRow.out _ HB4.out n hnl
                  have HA := box (FirstM.any_succ l (FirstM.touch ms p.tx) n hnl lo)
                  have HTo : Box (FirstM.touch ms p.tx l[n] = ((l[n].tx == p.tx) && ((l[n].kind == 2) && decide (l[n].item ∈ ms)))) := ⟨rfl⟩
                  generalize (lo || (l.take n).any (FirstM.touch ms p.tx)) = lo2 at *
                  generalize l[n] = q at *
                  go_upto_region 31 with (fail)
                  refine name_world (fun W => Below wr.heap.size wr W ∧ Blk W wr.heap.size 42 [.int .i64 q.tx, .int .i64 q.kind, .int .i64 q.item]) ⟨(Below.refl _ _).alloc (Nat.le_refl _) _, Blk.new _ _ _⟩ ?_
                  rintro W4 ⟨hbV, hqV⟩
                  have HbV := box (Hb4.out.trans (hbV.mono hs34))
                  have x0 := ((HPW.out.below Hb4.out hlp).after hbV).cell (i := 0) rfl
                  have HIV := box ((HIW.out.below Hb4.out (Nat.le_refl _)).below hbV (Nat.le_refl _))
                  have z0 := hqV.cell (i := 0) rfl
                  have z1 := hqV.cell (i := 1) rfl
                  have z2 := hqV.cell (i := 2) rfl
                  obtain ⟨Bq, HBq⟩ : ∃ Bq, Box (wr.heap.size = Bq) := ⟨_, ⟨rfl⟩⟩
                  rw [HBq.out] at z0 z1 z2 ⊢
                  clear hbV hqV d0 d1 d2 y0
                  cases lo2 with
                  | true =>
                    clear HTo
                    go_wp2_with fail
                    go_roundw
                    case rel => exact ⟨n + 1, hlt4, by go_num, by rw [HA.out, Bool.true_or], HbV⟩
                    case measure => simp [intOf]; omega
                  | false =>
                    cases r1 : (q.tx == p.tx) with
                    | false =>
                      have HA2 := box (HA.out.trans (show (false || FirstM.touch ms p.tx q) = false by rw [HTo.out, r1]; rfl))
                      clear HTo HA
                      go_wp2_with fail
                      go_roundw
                      case rel => exact ⟨n + 1, hlt4, by go_num, by rw [HA2.out], HbV⟩
                      case measure => simp [intOf]; omega
                    | true =>
                      cases r2 : (q.kind == 2) with
                      | false =>
                        have HA2 := box (HA.out.trans (show (false || FirstM.touch ms p.tx q) = false by rw [HTo.out, r1, r2]; rfl))
                        clear HTo HA
                        go_wp2_with fail
                        go_roundw
                        case rel => exact ⟨n + 1, hlt4, by go_num, by rw [HA2.out], HbV⟩
                        case measure => simp [intOf]; omega
                      | true =>
                        have HA2 := box (HA.out.trans (show (false || FirstM.touch ms p.tx q) = decide (q.item ∈ ms) by rw [HTo.out, r1, r2]; simp))
                        clear HTo HA
                        go_wp2_with fail
                        refine (contains_ints ms q.item mao mcap _ HIV.out (by omega)).mono ?_
                        rintro e w' ⟨rfl, rfl⟩
                        generalize decide (q.item ∈ ms) = res at *
                        go_wp2_with fail
                        go_roundw
                        case rel => exact ⟨n + 1, hlt4, by go_num, by rw [HA2.out], HbV⟩
                        case measure => simp [intOf]; omega
      have hkl : k < l.length := by omega
      have hk2 : (k : Int) < (i : Int) := by omega
      obtain ⟨c0, c1, c2⟩ := HRow.out _ Hb2.out k hkl
      have HMs := box (FirstM.mine_succ l o.tx k hkl)
      have hml := FirstM.mine_len l o.tx k
      generalize FirstM.mine l o.tx k = ms at *
      generalize l[k] = p at *
      go_upto_region 20 with (fail)
      refine name_world (fun W => Below wr.heap.size wr W ∧ Blk W wr.heap.size 42 [.int .i64 p.tx, .int .i64 p.kind, .int .i64 p.item]) ⟨(Below.refl _ _).alloc (Nat.le_refl _) _, Blk.new _ _ _⟩ ?_
      rintro W2 ⟨hbW, hpW⟩
      have HbW := box (Hb2.out.trans (hbW.mono hs2))
      have HKW := box (HK2.out.after hbW)
      have HMW := box (FirstM.own_below HM2.out hbW hm2)
      have HOW := box (ownsRow_below HO.out hbW)
      have hsW2 := HbW.out.size
      have z0 := HKW.out.cell (i := 0) rfl
      have y0 := hpW.cell (i := 0) rfl
      have y1 := hpW.cell (i := 1) rfl
      have y2 := hpW.cell (i := 2) rfl
      have hlp := hpW.lt
      clear hbW hpW x0 c0 c1 c2
      generalize wr.heap.size = P at *
      have Hno : Box (FirstM.isMine o.tx p = false → FirstM.mine l o.tx (k + 1) = ms) := ⟨fun hf => by rw [HMs.out, hf, if_neg (by simp), List.append_nil]⟩
      have Hyes : Box (FirstM.isMine o.tx p = true → FirstM.mine l o.tx (k + 1) = ms ++ [p.item]) := ⟨fun hf => by rw [HMs.out, hf, if_pos rfl]⟩
      clear HMs
      cases q1 : (p.tx == o.tx) with
      | false =>
        have Hn2 := box (Hno.out (by simp only [FirstM.isMine, q1]; rfl))
        clear Hno Hyes
        go_wp2_with fail
        go_roundw
        case rel => exact ⟨k + 1, hlt2, by go_num, ⟨by rw [Hn2.out]; exact HOW.out⟩, HbW, HKW, HMW⟩
        case measure => simp [intOf]; omega
      | true =>
        cases q2 : (p.kind == 2) with
        | false =>
          have Hn2 := box (Hno.out (by simp only [FirstM.isMine, q1, q2]; rfl))
          clear Hno Hyes
          go_wp2_with fail
          go_roundw
          case rel => exact ⟨k + 1, hlt2, by go_num, ⟨by rw [Hn2.out]; exact HOW.out⟩, HbW, HKW, HMW⟩
          case measure => simp [intOf]; omega
        | true =>
          have Hy2 := box (Hyes.out (by simp only [FirstM.isMine, q1, q2]; rfl))
          clear Hno Hyes
          have hown2 := HOW.out.alloc (.cells #[.int .i64 p.item] 3)
          have hmW2 := HMW.out.lt
          go_wp2_with (at_builtin; go_must (refine wpList_append_own _ rfl _ _ 31 rfl (Bm + 1) 3 i0 _ 1 8 Try.underlying31 hi0' hz0 hz1 hz2 rfl (by decide) _ _ _ rfl hown2 ⟨W2.heap.size, 0, none⟩ 1 1 [.int .i64 p.item] rfl rfl (cells_new W2 [.int .i64 p.item] 3) (by simp [Value.oneCell']) (by unfold maxLen; omega) (by omega) (by simp; omega) ?_))
          intro v' w9 hown3 hgrow _
          have hb9 : ∀ j, (u13 : Value).ownBlock = some j → Bm + 1 ≤ j := fun j hj => (HOW.out.lt j hj).1
          have HB9 := box ((HbW.out.alloc hsW2 (.cells #[.int .i64 p.item] 3)).grown hgrow (by simp; omega) (fun j hj => by have := hb9 j hj; omega))
          have HK9 := box ((HKW.out.alloc (.cells #[.int .i64 p.item] 3)).grown hgrow ((HKW.out.alloc (.cells #[.int .i64 p.item] 3)).ne_own hown2 (by decide)))
          have HM9 := box ((HMW.out.alloc (.cells #[.int .i64 p.item] 3)).kept hgrow (fun e => by have := hb9 _ e.symm; omega))
          have HO9 := box hown3
          clear hown3 hgrow hown2 hb9
          go_wp2_with fail
          go_roundw
          case rel =>
            refine ⟨k + 1, hlt2, by go_num, ⟨?_⟩, HB9, HK9, HM9⟩
            rw [Hy2.out, intVals_append, List.length_append]
            exact HO9.out
          case measure => simp [intOf]; omega
namespace lawSnapFirst
open Go.ChangeShapes Go.WideShapes Go.ChangeAt Go.RowKit Go.ChangeMaps

set_option maxRecDepth 100000 in
theorem lifted (os : Os) (started : os.Started) (H : Type) (enc : TypeId × Value → H) :
    ReturnsInHanded {} Try.checked os 6 .any (Rows.snapFirstSpec.pre6 enc Try.prog Try.f6 [] false) (Rows.snapFirstSpec.post enc Try.prog Try.f6 false true false false) := by
  refine LawKit.law_lifted started (by kernel_rfl) Try.func6 rfl
    (fun ds h => by
      match ds, h with
      | [_], _ => rfl)
    rfl Try.underlying4 (by intro t ht; exact of_decide_eq_true (p := Try.prog.readableRec t = true ∧ t < Try.prog.types.size) (by revert t ht; decide +kernel))
    (ChangeSpec.witness6 (enc := enc) (C := Try.checked) false ⟨#[], #[.slice none 0 0], []⟩ 8 (by kernel_rfl) (by kernel_rfl) (by kernel_rfl) (by kernel_rfl)) ?_
  intro W base args ds ps hval hA hsz hlt hfz
  have hA' := hA
  rw [Try.params6] at hA hval
  obtain ⟨v0, vs0, d0, ds0, p0, q0, hargs, rfl, rfl, h0, r0⟩ := trodAll_cons hA
  obtain ⟨rfl, rfl, rfl⟩ := trodAll_nil r0
  obtain rfl : args = #[v0] := by cases args; simp_all
  obtain ⟨ao, cap, ls, rfl, hnil, hat, hfits, hlc, _⟩ := open_ops (hval 0 _ _ rfl rfl) h0 (Open.weights_bound hsz (j := 0) (by rw [Try.params6]; rfl) rfl)
  refine (snapFirst_calls ls ao cap W hat hfits hlc).mono ?_
  rintro e W' ⟨rfl, hb⟩
  exact ⟨rfl, hb⟩

theorem proved : Rows.SnapFirstSaid :=
  OpenClaim.holds_of_wide 6 Try.f6 rfl rfl rfl rfl rfl rfl rfl ⟨rfl, rfl, rfl, rfl, rfl⟩ rfl rfl rfl rfl rfl (by kernel_rfl) Try.func6 (by kernel_rfl)
    (of_decide_eq_true (by kernel_rfl)) (by unfold Func.isWrapper; first | (rw [if_pos (by decide +kernel)]; kernel_rfl) | (rw [if_neg (by decide +kernel)]; exact ⟨rfl, rfl⟩))
    (fun os started H enc _ => lifted os started H enc)
end lawSnapFirst
end Go.Proofs.Ytlmibgjflgkalaa
