/- wal.Sync, Room, Append: walked. -/
import Derived.Test.YtpeaefeoogcepaaDoorWalW5
import Derived.Test.YtpeaefeoogcepaaDoorOffRow
namespace Go.Proofs.YtpeaefeoogcepaaDoor
open Go.RowKit Go.Lib
open WalM

namespace WalM
def syncM (d : DiskM) (l : LogM) : DiskM × LogM × Int := if l.fell = true then (d, l, 10) else (SectM.flush d, fallL l (SectM.flushed d), SectM.flushed d)
/-- Sectors are written, one behind another. -/
def writesM : DiskM → Nat → List (List UInt8) → DiskM × Int
  | d, _, [] => (d, 0)
  | d, p, s :: r => if SectM.wrote d p (BA s) ≠ 0 then (SectM.write d p (BA s), SectM.wrote d p (BA s)) else writesM (SectM.write d p (BA s)) (p + 1) r
def appendM (d : DiskM) (l : LogM) (t : List UInt8) : DiskM × LogM × Int :=
  if l.fell = true then (d, l, 10)
  else if 300 < t.length then (d, l, 2)
  else if l.size < l.at_ + (sectors l.ep l.seq t).length then (d, l, 8)
  else if (writesM d (l.frm + l.at_) (sectors l.ep l.seq t)).2 ≠ 0 then ((writesM d (l.frm + l.at_) (sectors l.ep l.seq t)).1, fallL l (writesM d (l.frm + l.at_) (sectors l.ep l.seq t)).2, (writesM d (l.frm + l.at_) (sectors l.ep l.seq t)).2)
  else ((writesM d (l.frm + l.at_) (sectors l.ep l.seq t)).1, { l with at_ := l.at_ + (sectors l.ep l.seq t).length, seq := l.seq + 1 }, 0)
theorem cells_of {w : World} {D Lb : Nat} {l : LogM} (h : Blk w Lb 45 (logCells D l)) :
    w.cell? ⟨Lb, 0, none⟩ = some (.pointer (some ⟨D, 0, none⟩)) ∧ w.cell? ⟨Lb, 1, none⟩ = some (.int .i64 (l.frm : Int)) ∧ w.cell? ⟨Lb, 2, none⟩ = some (.int .i64 (l.size : Int)) ∧ w.cell? ⟨Lb, 3, none⟩ = some (.int .i64 l.ep) ∧
    w.cell? ⟨Lb, 4, none⟩ = some (.int .i64 (l.at_ : Int)) ∧ w.cell? ⟨Lb, 5, none⟩ = some (.int .i64 (l.seq : Int)) ∧ w.cell? ⟨Lb, 6, none⟩ = some (.bool l.fell) ∧ Lb < w.heap.size :=
  ⟨h.cell rfl, h.cell rfl, h.cell rfl, h.cell rfl, h.cell rfl, h.cell rfl, h.cell rfl, h.lt⟩
end WalM
set_option maxRecDepth 20000 in
set_option maxHeartbeats 4000000 in
theorem walSync_any {w : World} {base D n Lb : Nat} {vs ve vl : Value} {d : DiskM} {l : LogM} (h : LogIn w base D vs ve vl d n Lb l) :
    Calls Tryd.prog 10 #[.pointer (some ⟨Lb, 0, none⟩)] w fun x w' => x = .returned (.int .i64 (syncM d l).2.2) ∧ MvO w base D vs ve vl Lb (syncM d l).1 (syncM d l).2.1 w' := by
  obtain ⟨c0, _, _, _, _, _, c6, hLl⟩ := cells_of h.log
  have HFl := box (logFlush h h.mv h.good)
  have HFa := box (fun vl1 wx (m : LogMv w base D vs ve vl Lb (SectM.flush d) l vl1 wx) => logFall h m (SectM.flushed d))
  have HM0 := box h.mv
  have HR : Box (syncM d l = if l.fell = true then (d, l, 10) else (SectM.flush d, fallL l (SectM.flushed d), SectM.flushed d)) := ⟨rfl⟩
  obtain ⟨r, Hr⟩ : ∃ r, Box (syncM d l = r) := ⟨_, ⟨rfl⟩⟩
  rw [Hr.out] at HR ⊢
  clear h Hr
  obtain ⟨e, He⟩ : ∃ x, Box (SectM.flushed d = x) := ⟨_, ⟨rfl⟩⟩
  rw [He.out] at HFl HFa HR
  generalize SectM.flush d = D2 at *
  cases hf : l.fell with
  | true =>
    have Hr := box (HR.out.trans (if_pos hf))
    rw [hf] at c6
    clear HR HFl HFa hf
    go_enter Tryd.func10, Tryd.ntmps10
    go_wp2_with fail
    go_ret
    exact ⟨by rw [Hr.out]; rfl, by rw [Hr.out]; exact ⟨vl, HM0.out⟩⟩
  | false =>
    have Hr := box (HR.out.trans (if_neg (by rw [hf]; simp)))
    rw [hf] at c6
    clear HR hf
    go_enter Tryd.func10, Tryd.ntmps10
    go_wp2_with fail
    refine HFl.out.mono ?_
    rintro x w1 ⟨rfl, vl1, hm1⟩
    have HFx := box (HFa.out vl1 w1 hm1)
    clear hm1 HFl HFa
    go_wp2_with fail
    refine HFx.out.mono ?_
    rintro x w2 ⟨rfl, hm2⟩
    have HM2 := box hm2
    clear hm2 HFx
    go_wp2_with fail
    go_ret
    exact ⟨by rw [Hr.out]; rfl, by rw [Hr.out]; exact HM2.out⟩
set_option maxRecDepth 20000 in
set_option maxHeartbeats 4000000 in
theorem walRoom_any (w : World) (D Lb : Nat) (l : LogM) (h : Blk w Lb 45 (logCells D l)) (h1 : l.size ≤ 1000) (h2 : l.at_ ≤ 1000) :
    Calls Tryd.prog 7 #[.pointer (some ⟨Lb, 0, none⟩)] w fun x w' => x = .returned (.int .i64 ((l.size : Int) - (l.at_ : Int))) ∧ ∃ n, w' = w.drewN n := by
  obtain ⟨_, _, c2, _, c4, _, _, hLl⟩ := cells_of h
  clear h
  obtain ⟨frm, size, ep, at_, seq, fell⟩ := l
  dsimp only at c2 c4 h1 h2 ⊢
  have w1 : IntKind.i64.wrap ((size : Int) - (at_ : Int)) = (size : Int) - (at_ : Int) := IntWalk.i64_in _ (by omega)
  go_enter Tryd.func7, Tryd.ntmps7
  go_wp2_with fail
  go_quiet (fail)
  go_wp2_with fail
  go_ret
  exact ⟨rfl, _, rfl⟩
namespace WalM
theorem writesM_drop {d1 : DiskM} {p i : Nat} {parts : List (List UInt8)} (hi : i < parts.length) : writesM d1 (p + i) (parts.drop i) = if SectM.wrote d1 ((p + i : Nat) : Int) (BA parts[i]) ≠ 0 then (SectM.write d1 ((p + i : Nat) : Int) (BA parts[i]), SectM.wrote d1 ((p + i : Nat) : Int) (BA parts[i])) else writesM (SectM.write d1 ((p + i : Nat) : Int) (BA parts[i])) (p + (i + 1)) (parts.drop (i + 1)) := by
  rw [List.drop_eq_getElem_cons hi, writesM]
  rfl
end WalM
set_option maxRecDepth 20000 in
set_option maxHeartbeats 16000000 in
theorem walAppend_any {w : World} {base D n Lb : Nat} {vs ve vl : Value} {d : DiskM} {l : LogM} (h : LogIn w base D vs ve vl d n Lb l) (he : I64 l.ep) (hsz : l.frm + l.size ≤ n) (hat : l.at_ ≤ 1000) (hseq : l.seq ≤ 1000) (hlt : d.late.length ≤ 500000) (t : List UInt8) (htl : t.length ≤ 9223372036854775807) :
    Calls Tryd.prog 6 #[.pointer (some ⟨Lb, 0, none⟩), .string (BA t)] w fun x w' => x = .returned (.int .i64 (appendM d l t).2.2) ∧ MvO w base D vs ve vl Lb (appendM d l t).1 (appendM d l t).2.1 w' := by
  obtain ⟨c0, c1, c2, c3, c4, c5, c6, hLl⟩ := cells_of h.log
  have H := box h
  have HM0 := box h.mv
  have HR : Box (appendM d l t = if l.fell = true then (d, l, 10)
  else if 300 < t.length then (d, l, 2)
  else if l.size < l.at_ + (sectors l.ep l.seq t).length then (d, l, 8)
  else if (writesM d (l.frm + l.at_) (sectors l.ep l.seq t)).2 ≠ 0 then ((writesM d (l.frm + l.at_) (sectors l.ep l.seq t)).1, fallL l (writesM d (l.frm + l.at_) (sectors l.ep l.seq t)).2, (writesM d (l.frm + l.at_) (sectors l.ep l.seq t)).2)
  else ((writesM d (l.frm + l.at_) (sectors l.ep l.seq t)).1, { l with at_ := l.at_ + (sectors l.ep l.seq t).length, seq := l.seq + 1 }, 0)) := ⟨rfl⟩
  obtain ⟨r, Hr⟩ : ∃ r, Box (appendM d l t = r) := ⟨_, ⟨rfl⟩⟩
  rw [Hr.out] at HR ⊢
  have hn2 := h.n2
  clear h Hr
  have hTs : (BA t).size = t.length := rfl
  cases hf : l.fell with
  | true =>
    have Hr := box (HR.out.trans (if_pos hf))
    rw [hf] at c6
    clear HR hf
    generalize BA t = T at *
    go_enter Tryd.func6, Tryd.ntmps6
    go_wp2_with fail
    go_ret
    exact ⟨by rw [Hr.out]; rfl, by rw [Hr.out]; exact ⟨vl, HM0.out⟩⟩
  | false =>
  have HR2 := box (HR.out.trans (if_neg (by rw [hf]; simp)))
  rw [hf] at c6
  have HfB := box hf
  clear HR hf
  by_cases h300 : 300 < t.length
  · have Hr := box (HR2.out.trans (if_pos h300))
    have d3 : decide ((300 : Int) < (t.length : Int)) = true := decide_eq_true (by omega)
    clear HR2 h300
    generalize BA t = T at *
    go_enter Tryd.func6, Tryd.ntmps6
    go_wp2_with fail
    go_ret
    exact ⟨by rw [Hr.out]; rfl, by rw [Hr.out]; exact ⟨vl, HM0.out⟩⟩
  have HR3 := box (HR2.out.trans (if_neg h300))
  have d3 : decide ((300 : Int) < (t.length : Int)) = false := decide_eq_false (by omega)
  have HSec := box (fun wx => walSectors_any l.ep l.seq t wx he ⟨by omega, by omega⟩ (by omega))
  have hbl := body_len t
  have hpk := CodeM.put_len t.length
  have hcl : (sectors l.ep l.seq t).length ≤ 400 := Nat.le_trans (cuts_len_le _ _ _ _ _) (by omega)
  have HForm : Box (∀ s ∈ sectors l.ep l.seq t, s.length ≤ 64) := ⟨fun s hs => (sectors_form hs).1⟩
  obtain ⟨parts, Hparts⟩ : ∃ x, Box (sectors l.ep l.seq t = x) := ⟨_, ⟨rfl⟩⟩
  rw [Hparts.out] at HSec HR3 hcl HForm
  clear HR2 hbl hpk h300
  obtain ⟨T, HT⟩ : ∃ x, Box (BA t = x) := ⟨_, ⟨rfl⟩⟩
  rw [HT.out] at HSec hTs ⊢
  go_enter Tryd.func6, Tryd.ntmps6
  go_wp2_with fail
  have hkp : 1 ≤ parts.length := by rw [← Hparts.out]; exact sectors_pos _ _ _
  obtain ⟨k, Hk⟩ : ∃ x, Box (parts.length = x) := ⟨_, ⟨rfl⟩⟩
  rw [Hk.out] at HSec HR3 hcl hkp
  have HC1 := box (fun wx (hb : Below w.heap.size w wx) => cells_of (HM0.out.below hb).log)
  go_region_held3 (fun w' => w'.cell? ⟨Lb, 3, none⟩ = some (.int .i64 l.ep) ∧ w'.cell? ⟨Lb, 5, none⟩ = some (.int .i64 (l.seq : Int))) (first | exact ⟨c3, c5⟩ | exact ⟨(HC1.out _ HB1.out).2.2.2.1, (HC1.out _ HB1.out).2.2.2.2.2.1⟩ | assumption) (first
    | (go_at_call 16; refine (HSec.out _).mono ?_; rintro e w1 ⟨v, rfl, hown1, hb1⟩; have HOwn := box hown1; have HB1 : Box (Below w.heap.size w w1) := ⟨below_tr (Below.refl _ _).drew hb1⟩; obtain ⟨g, gc, rfl, hg1, hg2, hg3⟩ := ownsRow_shape hown1 (by rintro rfl; rcases hown1.2 with ⟨_, h3⟩ | ⟨_, _, _, h3, _⟩ <;> first | omega | cases h3); clear hown1 hb1)
    | fail)
  clear HSec c0 c1 c2 c3 c4 c5 c6 hLl
  obtain ⟨c0, c1, c2, c3, c4, c5, c6, hLl⟩ := HC1.out w1 HB1.out
  have w1' : IntKind.i64.wrap ((l.at_ : Int) + (k : Int)) = (l.at_ : Int) + (k : Int) := IntWalk.i64_in _ (by omega)
  go_step
  go_wp2_with fail
  go_quiet (fail)
  obtain ⟨V, HVe⟩ : ∃ x, Box (w1.drewN nq = x) := ⟨_, ⟨rfl⟩⟩
  rw [HVe.out]
  have HB2 : Box (Below w1.heap.size w1 V) := ⟨by rw [← HVe.out]; exact ⟨rfl, rfl, rfl, Nat.le_refl _, fun _ _ => rfl⟩⟩
  have HBV : Box (Below w.heap.size w V) := ⟨below_tr HB1.out HB2.out⟩
  have HMV := box (HM0.out.below HBV.out)
  have HOwV := box (ownsRow_below HOwn.out HB2.out)
  clear c0 c1 c2 c3 c4 c5 c6 hLl w1' HB1 HB2 HVe HOwn HC1
  by_cases hfull : l.size < l.at_ + k
  · have Hr := box (HR3.out.trans (if_pos hfull))
    have hfi : (l.size : Int) < (l.at_ : Int) + (k : Int) := by omega
    clear hfull HR3
    go_wp2_with fail
    go_ret
    exact ⟨by rw [Hr.out]; rfl, by rw [Hr.out]; exact ⟨vl, HMV.out⟩⟩
  have HR4 := box (HR3.out.trans (if_neg hfull))
  have hfi : ¬ (l.size : Int) < (l.at_ : Int) + (k : Int) := by omega
  have HKV := box (HMV.out.in_ H.out H.out.good (by omega))
  have HRow : Box (∀ wx, KeptS (Turns D vs ve vl Lb) V wx → (∀ i (hi : i < parts.length), wx.cell? ⟨g, i, none⟩ = some (.string (BA parts[i])))) := ⟨fun wx hk i hi => by
    have ho := hk.own HOwV.out (fun b hb hm => by
      obtain rfl : g = b := by simpa [Value.ownBlock] using hb
      rcases hm with hm | hm
      · have := H.out.log.lt
        have := (HOwV.out.lt g rfl).1
        have : w.heap.size ≤ g := hg1
        omega
      · have := (H.out.at_.mine_lt hm).2
        have : w.heap.size ≤ g := hg1
        omega)
    rw [ho.cellAt i (by rw [Nat.mul_one]; rw [Hk.out] at hi; exact hi)]
    unfold secVals
    rw [List.getElem?_map, List.getElem?_eq_getElem hi]
    rfl⟩
  have hgV : g < V.heap.size := (HOwV.out.lt g rfl).2
  have HHV := box (fun (dx : DiskM) (vlx : Value) (wx : World) (m : LogMv V base D vs ve vl Lb dx l vlx wx) => cells_of m.log)
  have HFaV := box (fun (dx : DiskM) (vlx : Value) (wx : World) (e : Int) (m : LogMv V base D vs ve vl Lb dx l vlx wx) => logFall HKV.out m e)
  have HTr := box (fun (dx : DiskM) (lx : LogM) (wx : World) (m : MvO V base D vs ve vl Lb dx lx wx) => (show MvO w base D vs ve vl Lb dx lx wx from let ⟨vlx, m⟩ := m; ⟨vlx, HMV.out.trans m⟩))
  clear hfull HR3
  go_wp2_with fail
  go_loopw [40] (fun t40 wr => ∃ i : Nat, i ≤ k ∧ t40 = .int .i64 (i : Int) ∧ Box (∃ d1 vl1, LogMv V base D vs ve vl Lb d1 l vl1 wr ∧ SectM.Good n d1 ∧ d1.late.length ≤ 500000 + i ∧ writesM d1 (l.frm + l.at_ + i) (parts.drop i) = writesM d (l.frm + l.at_) parts)) (fun t40 _ => k - (RowKit.intOf t40).toNat)
  case atStart => exact ⟨0, Nat.zero_le _, rfl, ⟨d, vl, HKV.out.mv, H.out.good, by omega, rfl⟩⟩
  case round =>
    obtain ⟨i, hi, rfl, HQ⟩ := hrel
    obtain ⟨d1, vl1, hm, hg, hla, hw⟩ := HQ.out
    have HM := box hm; have HG := box hg; have HW := box hw
    clear HQ hm hg hw
    obtain ⟨c0, c1, c2, c3, c4, c5, c6, hLl⟩ := HHV.out d1 vl1 wr HM.out
    by_cases hlt2 : i < k
    · have hip : i < parts.length := by rw [Hk.out]; exact hlt2
      have r0 := HRow.out wr HM.out.kept i hip
      have hgl : g < wr.heap.size := Nat.lt_of_lt_of_le hgV HM.out.kept.size
      have HWw := box (writesM_drop (d1 := d1) (p := l.frm + l.at_) hip)
      have HWr := box (fun (vlx : Value) (wx : World) (m : LogMv V base D vs ve vl Lb d1 l vlx wx) => logWrite HKV.out m HG.out (by omega) ((l.frm : Int) + (l.at_ : Int) + (i : Int)) (BA parts[i]) (by rw [BA_size]; have := HForm.out _ (List.getElem_mem hip); omega))
      have HGd := box (SectM.write_good HG.out ((l.frm : Int) + (l.at_ : Int) + (i : Int)) (BA parts[i]))
      have HLt := box (write_late d1 ((l.frm : Int) + (l.at_ : Int) + (i : Int)) (BA parts[i]))
      rw [show ((l.frm + l.at_ + i : Nat) : Int) = (l.frm : Int) + (l.at_ : Int) + (i : Int) by omega] at HWw
      obtain ⟨P, HP⟩ : ∃ x, Box (BA parts[i] = x) := ⟨_, ⟨rfl⟩⟩
      rw [HP.out] at r0 HWw HWr HGd HLt
      obtain ⟨e, He⟩ : ∃ x, Box (SectM.wrote d1 ((l.frm : Int) + (l.at_ : Int) + (i : Int)) P = x) := ⟨_, ⟨rfl⟩⟩
      obtain ⟨D1, HD1⟩ : ∃ x, Box (SectM.write d1 ((l.frm : Int) + (l.at_ : Int) + (i : Int)) P = x) := ⟨_, ⟨rfl⟩⟩
      rw [He.out, HD1.out] at HWw HWr
      rw [HD1.out] at HGd HLt
      clear He HD1 HP
      have wa : IntKind.i64.wrap ((l.frm : Int) + (l.at_ : Int)) = (l.frm : Int) + (l.at_ : Int) := IntWalk.i64_in _ (by omega)
      have wb : IntKind.i64.wrap ((l.frm : Int) + (l.at_ : Int) + (i : Int)) = (l.frm : Int) + (l.at_ : Int) + (i : Int) := IntWalk.i64_in _ (by omega)
      have HMd := box (HM.out.below (Below.refl wr.heap.size wr).drew)
      go_wp2_with fail
      go_region_held3 (fun w' => w'.cell? ⟨Lb, 0, none⟩ = some (.pointer (some ⟨D, 0, none⟩)) ∧ w'.cell? ⟨Lb, 1, none⟩ = some (.int .i64 (l.frm : Int)) ∧ w'.cell? ⟨Lb, 4, none⟩ = some (.int .i64 (l.at_ : Int))) (first | exact ⟨c0, c1, c4⟩ | exact ⟨k4.1, k4.2.1, k4.2.2.2.2.1⟩ | assumption) (first
        | (go_at_call 17; refine (HWr.out _ _ HMd.out).mono ?_; rintro x w4 ⟨rfl, vl4, hm4⟩; have HM4 := box hm4; have k4 := HHV.out D1 vl4 w4 hm4; clear hm4)
        | fail)
      clear c0 c1 c2 c3 c4 c5 c6 hLl HWr HMd HM r0 wa wb
      obtain ⟨c0, c1, c2, c3, c4, c5, c6, hLl⟩ := k4
      by_cases h1 : e = 0
      case neg =>
        have HX := box (HW.out.symm.trans (HWw.out.trans (if_pos h1)))
        have Hr := box (HR4.out.trans (if_pos (by rw [HX.out]; exact h1)))
        have HFx := box (HFaV.out D1 vl4 w4 e HM4.out)
        have hd : (e != 0) = true := by simpa using h1
        have hd2 : (e == 0) = false := by simpa using h1
        clear h1 HW HWw HG HGd HLt hla
        go_step
        go_wp2_with fail
        refine HFx.out.mono ?_
        rintro x w5 ⟨rfl, hm5⟩
        have HM5 := box (HTr.out _ _ _ hm5)
        clear hm5 HFx
        go_wp2_with fail
        go_ret
        exact ⟨by rw [Hr.out, HX.out]; rfl, by rw [Hr.out, HX.out]; exact HM5.out⟩
      subst h1
      have HX := box (HW.out.symm.trans (HWw.out.trans (if_neg (by simp))))
      have HNx : Box (∃ d1 vl1, LogMv V base D vs ve vl Lb d1 l vl1 w4 ∧ SectM.Good n d1 ∧ d1.late.length ≤ 500000 + (i + 1) ∧ writesM d1 (l.frm + l.at_ + (i + 1)) (parts.drop (i + 1)) = writesM d (l.frm + l.at_) parts) := ⟨D1, vl4, HM4.out, HGd.out, by have := HLt.out; omega, HX.out.symm⟩
      clear HX HW HWw HG HGd HLt HM4
      go_step
      go_wp2_with fail
      go_roundw
      case rel => exact ⟨i + 1, hlt2, by go_num, HNx⟩
      case measure => simp [RowKit.intOf]; omega
    · obtain rfl : i = k := by omega
      have HX : Box (writesM d (l.frm + l.at_) parts = (d1, 0)) := ⟨by
        rw [← HW.out, List.drop_of_length_le (by rw [Hk.out]; exact Nat.le_refl _)]; rfl⟩
      have Hr := box (HR4.out.trans (if_neg (by rw [HX.out]; simp)))
      have HS1 : Box (LogMv V base D vs ve vl Lb d1 { l with at_ := l.at_ + i } vl1 (wr.setCell ⟨Lb, 4, none⟩ (.int .i64 ((l.at_ : Int) + (i : Int))))) := ⟨HM.out.set HKV.out.log.lt HKV.out.ap 4 _ (by
        rw [show ((l.at_ : Int) + (i : Int)) = ((l.at_ + i : Nat) : Int) by omega]; rfl)⟩
      have HS2 : Box (LogMv V base D vs ve vl Lb d1 { l with at_ := l.at_ + i, seq := l.seq + 1 } vl1 ((wr.setCell ⟨Lb, 4, none⟩ (.int .i64 ((l.at_ : Int) + (i : Int)))).setCell ⟨Lb, 5, none⟩ (.int .i64 ((l.seq : Int) + 1)))) := ⟨HS1.out.set HKV.out.log.lt HKV.out.ap 5 _ rfl⟩
      have HFin := box (HTr.out _ _ _ ⟨vl1, HS2.out⟩)
      have f4 := HM.out.log.frozen 4
      have g5 := HS1.out.log.cell (i := 5) rfl
      have f5 := HS1.out.log.frozen 5
      have gl := HS1.out.log.lt
      clear HW HG HS1 HS2
      go_wp2_with fail
      go_ret
      exact ⟨by rw [Hr.out]; rfl, by rw [Hr.out, HX.out]; exact HFin.out⟩
end Go.Proofs.YtpeaefeoogcepaaDoor
