/- wal.fall, raise, Sync, Room: walked. -/
import Derived.Test.YtpeaefeoogcepaaDoorWalW4
import Derived.Deep.RegionHeld3
namespace Go.Proofs.YtpeaefeoogcepaaDoor
open Go.RowKit Go.Lib
open WalM

namespace WalM
/-- A log on a disk, in memory. -/
structure LogIn (w : World) (base D : Nat) (vs ve vl : Value) (d : DiskM) (n Lb : Nat) (l : LogM) : Prop where
  at_ : SectM.At w base D vs ve vl d
  good : SectM.Good n d
  log : Blk w Lb 45 (logCells D l)
  ap : ¬ SectM.Mine D vs ve vl Lb
  lb : base ≤ Lb
  n1 : 1 ≤ n
  n2 : n ≤ 256
  late : d.late.length ≤ 1000000
  bs : base ≤ w.heap.size
/-- What a log's function may turn. -/
def Turns (D : Nat) (vs ve vl : Value) (Lb : Nat) : Nat → Prop := fun b => b = Lb ∨ SectM.Mine D vs ve vl b
/-- What a log's function leaves. -/
structure LogMv (w : World) (base D : Nat) (vs ve vl : Value) (Lb : Nat) (d' : DiskM) (l' : LogM) (vl' : Value) (w' : World) : Prop where
  at_ : SectM.At w' base D vs ve vl' d'
  log : Blk w' Lb 45 (logCells D l')
  kept : KeptS (Turns D vs ve vl Lb) w w'
  own : ∀ b, vl'.ownBlock = some b → w.heap.size ≤ b ∨ vl.ownBlock = some b
section
variable {w w1 w2 w' : World} {base D n Lb : Nat} {vs ve vl vl1 vl2 : Value} {d d1 d2 : DiskM} {l l1 l2 : LogM}
theorem LogIn.mv (h : LogIn w base D vs ve vl d n Lb l) : LogMv w base D vs ve vl Lb d l vl w := ⟨h.at_, h.log, KeptS.refl _ _, fun _ h => Or.inr h⟩
theorem LogMv.below (h : LogMv w base D vs ve vl Lb d l vl1 w1) (hb : Below w1.heap.size w1 w2) : LogMv w base D vs ve vl Lb d l vl1 w2 :=
  ⟨h.at_.below hb, h.log.after hb, h.kept.after hb, h.own⟩
theorem LogMv.ap (h : LogMv w base D vs ve vl Lb d l vl1 w1) (hl : Lb < w.heap.size) (ha : ¬ SectM.Mine D vs ve vl Lb) : ¬ SectM.Mine D vs ve vl1 Lb := fun hm => by
  rcases hm with hm | hm | hm | hm
  · exact ha (Or.inl hm)
  · exact ha (Or.inr (Or.inl hm))
  · exact ha (Or.inr (Or.inr (Or.inl hm)))
  · rcases h.own Lb hm with h1 | h1
    · omega
    · exact ha (Or.inr (Or.inr (Or.inr h1)))
theorem LogMv.mine (h : LogMv w base D vs ve vl Lb d l vl1 w1) {b : Nat} (hb : b < w.heap.size) (hm : SectM.Mine D vs ve vl1 b) : SectM.Mine D vs ve vl b := by
  rcases hm with hm | hm | hm | hm
  · exact Or.inl hm
  · exact Or.inr (Or.inl hm)
  · exact Or.inr (Or.inr (Or.inl hm))
  · rcases h.own b hm with h1 | h1
    · omega
    · exact Or.inr (Or.inr (Or.inr h1))
/-- The disk is moved. -/
theorem LogMv.disk (h : LogMv w base D vs ve vl Lb d l vl1 w1) (hl : Lb < w.heap.size) (ha : ¬ SectM.Mine D vs ve vl Lb) (k : SectM.Mv w1 base D vs ve vl1 d2 vl2 w2) : LogMv w base D vs ve vl Lb d2 l vl2 w2 :=
  ⟨k.at_, k.kept.blk h.log (h.ap hl ha), h.kept.trans k.kept (fun _ hb hm => Or.inr (h.mine hb hm)), fun b hb => by
    rcases k.own b hb with h1 | h1
    · exact Or.inl (Nat.le_trans h.kept.size h1)
    · exact h.own b h1⟩
/-- A store into the log's own block. -/
theorem LogMv.set (h : LogMv w base D vs ve vl Lb d l vl1 w1) (hl : Lb < w.heap.size) (ha : ¬ SectM.Mine D vs ve vl Lb) (i : Nat) (u : Value) (he : (logCells D l).set i u = logCells D l2) : LogMv w base D vs ve vl Lb d l2 vl1 (w1.setCell ⟨Lb, i, none⟩ u) := by
  have hap := h.ap hl ha
  refine ⟨?_, ?_, h.kept.set (Or.inl (Or.inl rfl)) _ _, h.own⟩
  · refine ⟨h.at_.blk.other (fun e => hap (Or.inl e.symm)) _, h.at_.lt, ownsRow_setCell_other h.at_.safe (fun e => hap (Or.inr (Or.inl e))) _, ownsRow_setCell_other h.at_.seen (fun e => hap (Or.inr (Or.inr (Or.inl e)))) _, ownsRow_setCell_other h.at_.late (fun e => hap (Or.inr (Or.inr (Or.inr e)))) _, h.at_.apart, h.at_.left⟩
  · have := h.log.set i u
    rwa [he] at this
theorem LogMv.in_ (h : LogMv w base D vs ve vl Lb d1 l1 vl1 w1) (k : LogIn w base D vs ve vl d n Lb l) (hg : SectM.Good n d1) (hlt : d1.late.length ≤ 1000000) : LogIn w1 base D vs ve vl1 d1 n Lb l1 :=
  ⟨h.at_, hg, h.log, h.ap k.log.lt k.ap, k.lb, k.n1, k.n2, hlt, Nat.le_trans k.bs h.kept.size⟩
theorem LogMv.trans (h : LogMv w base D vs ve vl Lb d1 l1 vl1 w1) (k : LogMv w1 base D vs ve vl1 Lb d2 l2 vl2 w2) : LogMv w base D vs ve vl Lb d2 l2 vl2 w2 :=
  ⟨k.at_, k.log, h.kept.trans k.kept (fun b hb hm => hm.imp id (fun hm => h.mine hb hm)), fun b hb => by
    rcases k.own b hb with h1 | h1
    · exact Or.inl (Nat.le_trans h.kept.size h1)
    · exact h.own b h1⟩
end
/-- An error of the disk. -/
def fallL (l : LogM) (e : Int) : LogM := { l with fell := l.fell || (e != 0) }
end WalM

set_option maxRecDepth 20000 in
set_option maxHeartbeats 4000000 in
theorem walFall_any (w : World) (D Lb : Nat) (l : LogM) (e : Int) (hL : Blk w Lb 45 (logCells D l)) :
    Calls Tryd.prog 18 #[.pointer (some ⟨Lb, 0, none⟩), .int .i64 e] w fun x w' => x = .returned (.int .i64 e) ∧ w' = w.setCell ⟨Lb, 6, none⟩ (.bool (l.fell || (e != 0))) := by
  have c6 := hL.cell (i := 6) rfl
  have f6 := hL.frozen 6
  have hl := hL.lt
  clear hL
  obtain ⟨frm, size, ep, at_, seq, fell⟩ := l
  dsimp only at c6 ⊢
  obtain ⟨p, hp⟩ : ∃ p, (e != 0) = p := ⟨_, rfl⟩
  rw [hp]
  cases fell with
  | true =>
    go_enter Tryd.func18, Tryd.ntmps18
    go_wp2_with fail
    go_ret
    exact ⟨rfl, by simp⟩
  | false =>
    go_enter Tryd.func18, Tryd.ntmps18
    go_wp2_with fail
    go_ret
    exact ⟨rfl, by simp⟩
namespace WalM
section
variable {w w1 : World} {base D n Lb : Nat} {vs ve vl vl1 : Value} {d d1 : DiskM} {l l1 : LogM}
def MvO (w : World) (base D : Nat) (vs ve vl : Value) (Lb : Nat) (d' : DiskM) (l' : LogM) (w' : World) : Prop := ∃ vl', LogMv w base D vs ve vl Lb d' l' vl' w'
theorem logWrite (k : LogIn w base D vs ve vl d n Lb l) (h : LogMv w base D vs ve vl Lb d1 l1 vl1 w1) (hg : SectM.Good n d1) (hlt : d1.late.length ≤ 1000000) (at_ : Int) (t : ByteArray) (ht : t.size ≤ 1000000) :
    Calls Tryd.prog 17 #[.pointer (some ⟨D, 0, none⟩), .int .i64 at_, .string t] w1 fun e w' => e = .returned (.int .i64 (SectM.wrote d1 at_ t)) ∧ MvO w base D vs ve vl Lb (SectM.write d1 at_ t) l1 w' := by
  refine (sectWrite_any w1 base D vs ve vl1 d1 h.at_ (Nat.le_trans k.bs h.kept.size) (by rw [hg.seen, hg.safe]) (by rw [hg.safe]; exact k.n1) (by rw [hg.safe]; exact k.n2) (by omega) at_ t (by omega)).mono ?_
  rintro e w' ⟨rfl, vl2, hm⟩
  exact ⟨rfl, vl2, h.disk k.log.lt k.ap hm⟩
theorem logFlush (k : LogIn w base D vs ve vl d n Lb l) (h : LogMv w base D vs ve vl Lb d1 l1 vl1 w1) (hg : SectM.Good n d1) :
    Calls Tryd.prog 24 #[.pointer (some ⟨D, 0, none⟩)] w1 fun e w' => e = .returned (.int .i64 (SectM.flushed d1)) ∧ MvO w base D vs ve vl Lb (SectM.flush d1) l1 w' := by
  refine (sectFlush_any w1 base D vs ve vl1 d1 h.at_ (by rw [hg.seen, hg.safe]) (by rw [hg.safe]; exact k.n1) (by rw [hg.safe]; exact k.n2)).mono ?_
  rintro e w' ⟨rfl, vl2, hm⟩
  exact ⟨rfl, vl2, h.disk k.log.lt k.ap hm⟩
theorem logFall (k : LogIn w base D vs ve vl d n Lb l) (h : LogMv w base D vs ve vl Lb d1 l1 vl1 w1) (e : Int) :
    Calls Tryd.prog 18 #[.pointer (some ⟨Lb, 0, none⟩), .int .i64 e] w1 fun x w' => x = .returned (.int .i64 e) ∧ MvO w base D vs ve vl Lb d1 (fallL l1 e) w' := by
  refine (walFall_any w1 D Lb l1 e h.log).mono ?_
  rintro x w' ⟨rfl, rfl⟩
  exact ⟨rfl, vl1, h.set k.log.lt k.ap 6 _ rfl⟩
theorem write_late (d : DiskM) (at_ : Int) (t : ByteArray) : (SectM.write d at_ t).late.length ≤ d.late.length + 1 := by
  unfold SectM.write
  split
  · show (d.late ++ [_]).length ≤ _
    simp
  · omega
end
/-- The epoch is raised. -/
def raiseM (d : DiskM) (l : LogM) : DiskM × LogM × Int :=
  if 1000000 ≤ l.ep then (d, l, 8)
  else if SectM.wrote d l.frm (BA (anchor (l.ep + 1))) ≠ 0 then (SectM.write d l.frm (BA (anchor (l.ep + 1))), fallL l (SectM.wrote d l.frm (BA (anchor (l.ep + 1)))), SectM.wrote d l.frm (BA (anchor (l.ep + 1))))
  else if SectM.flushed (SectM.write d l.frm (BA (anchor (l.ep + 1)))) ≠ 0 then (SectM.flush (SectM.write d l.frm (BA (anchor (l.ep + 1)))), fallL l (SectM.flushed (SectM.write d l.frm (BA (anchor (l.ep + 1))))), SectM.flushed (SectM.write d l.frm (BA (anchor (l.ep + 1)))))
  else (SectM.flush (SectM.write d l.frm (BA (anchor (l.ep + 1)))), { l with ep := l.ep + 1 }, 0)
end WalM
set_option maxRecDepth 20000 in
set_option maxHeartbeats 8000000 in
theorem walRaise_any {w : World} {base D n Lb : Nat} {vs ve vl : Value} {d : DiskM} {l : LogM} (h : LogIn w base D vs ve vl d n Lb l) (he : 0 ≤ l.ep ∧ l.ep ≤ 1000001) (hf : l.frm ≤ 300) :
    Calls Tryd.prog 23 #[.pointer (some ⟨Lb, 0, none⟩)] w fun x w' => x = .returned (.int .i64 (raiseM d l).2.2) ∧ MvO w base D vs ve vl Lb (raiseM d l).1 (raiseM d l).2.1 w' := by
  have H := box h
  have HAc := box (fun wx => walAnchor_any (l.ep + 1) wx ⟨by omega, by omega⟩)
  have hal : (BA (anchor (l.ep + 1))).size ≤ 1000000 := by
    have := anchor_len (l.ep + 1)
    rw [BA_size]; unfold anchor; rw [List.length_cons]; omega
  have HR : Box (raiseM d l = if 1000000 ≤ l.ep then (d, l, 8)
  else if SectM.wrote d l.frm (BA (anchor (l.ep + 1))) ≠ 0 then (SectM.write d l.frm (BA (anchor (l.ep + 1))), fallL l (SectM.wrote d l.frm (BA (anchor (l.ep + 1)))), SectM.wrote d l.frm (BA (anchor (l.ep + 1))))
  else if SectM.flushed (SectM.write d l.frm (BA (anchor (l.ep + 1)))) ≠ 0 then (SectM.flush (SectM.write d l.frm (BA (anchor (l.ep + 1)))), fallL l (SectM.flushed (SectM.write d l.frm (BA (anchor (l.ep + 1))))), SectM.flushed (SectM.write d l.frm (BA (anchor (l.ep + 1)))))
  else (SectM.flush (SectM.write d l.frm (BA (anchor (l.ep + 1)))), { l with ep := l.ep + 1 }, 0)) := ⟨rfl⟩
  have HCl : Box (∀ (d1 : DiskM) (l1 : LogM) (vl1 : Value) (wx : World), LogMv w base D vs ve vl Lb d1 l1 vl1 wx → wx.cell? ⟨Lb, 0, none⟩ = some (.pointer (some ⟨D, 0, none⟩)) ∧ wx.cell? ⟨Lb, 1, none⟩ = some (.int .i64 (l1.frm : Int)) ∧ wx.cell? ⟨Lb, 3, none⟩ = some (.int .i64 l1.ep) ∧ wx.frozen? ⟨Lb, 3, none⟩ = false ∧ Lb < wx.heap.size) :=
    ⟨fun d1 l1 vl1 wx m => ⟨m.log.cell rfl, m.log.cell rfl, m.log.cell rfl, m.log.frozen 3, m.log.lt⟩⟩
  obtain ⟨c0, c1, c3, f3, hLl⟩ := HCl.out d l vl w h.mv
  have HFa := box (fun d1 vl1 wx e (m : LogMv w base D vs ve vl Lb d1 l vl1 wx) => logFall h m e)
  have HWr := box (fun vl1 wx (m : LogMv w base D vs ve vl Lb d l vl1 wx) => logWrite h m h.good h.late (l.frm : Int) (BA (anchor (l.ep + 1))) hal)
  have HFl := box (fun vl1 wx (m : LogMv w base D vs ve vl Lb (SectM.write d l.frm (BA (anchor (l.ep + 1)))) l vl1 wx) => logFlush h m (SectM.write_good h.good (l.frm : Int) (BA (anchor (l.ep + 1)))))
  have HM0 := box h.mv
  obtain ⟨r, Hr⟩ : ∃ r, Box (raiseM d l = r) := ⟨_, ⟨rfl⟩⟩
  rw [Hr.out] at HR ⊢
  have HBx := box (fun (vl1 : Value) (wx w2 : World) (m : LogMv w base D vs ve vl Lb d l vl1 wx) (hb : Below wx.heap.size wx w2) => m.below hb)
  have HUp : Box (∀ (d1 : DiskM) (vl1 : Value) (wx : World), LogMv w base D vs ve vl Lb d1 l vl1 wx → LogMv w base D vs ve vl Lb d1 { l with ep := l.ep + 1 } vl1 (wx.setCell ⟨Lb, 3, none⟩ (.int .i64 (l.ep + 1)))) := ⟨fun d1 vl1 wx m => m.set h.log.lt h.ap 3 _ rfl⟩
  clear h
  obtain ⟨A, HA⟩ : ∃ x, Box (BA (anchor (l.ep + 1)) = x) := ⟨_, ⟨rfl⟩⟩
  rw [HA.out] at HAc HWr HFl HR hal
  obtain ⟨e1, He1⟩ : ∃ x, Box (SectM.wrote d l.frm A = x) := ⟨_, ⟨rfl⟩⟩
  obtain ⟨D1, HD1⟩ : ∃ x, Box (SectM.write d l.frm A = x) := ⟨_, ⟨rfl⟩⟩
  rw [He1.out, HD1.out] at HWr HR
  rw [HD1.out] at HFl
  obtain ⟨e2, He2⟩ : ∃ x, Box (SectM.flushed D1 = x) := ⟨_, ⟨rfl⟩⟩
  obtain ⟨D2, HD2⟩ : ∃ x, Box (SectM.flush D1 = x) := ⟨_, ⟨rfl⟩⟩
  rw [He2.out, HD2.out] at HFl HR
  clear HA He1 HD1 He2 HD2 Hr
  obtain ⟨he0, he1⟩ := he
  by_cases hep : 1000000 ≤ l.ep
  · have Hr := box (HR.out.trans (if_pos hep))
    obtain ⟨frm, size, ep, at_, seq, fell⟩ := l
    dsimp only at hep c1 c3
    clear HR HFa HWr HFl HCl HUp HBx HAc
    go_enter Tryd.func23, Tryd.ntmps23
    go_wp2_with fail
    go_ret
    exact ⟨by rw [Hr.out]; rfl, by rw [Hr.out]; exact ⟨vl, HM0.out⟩⟩
  have HR2 := box (HR.out.trans (if_neg hep))
  have HBs := box (fun (vl1 : Value) (wx : World) (m : LogMv w base D vs ve vl Lb d l vl1 wx) => HCl.out d l vl1 wx m)
  have hep2 : l.ep < 1000000 := by omega
  clear HR
  obtain ⟨L, HLe⟩ : ∃ x, Box (l = x) := ⟨_, ⟨rfl⟩⟩
  obtain ⟨ep, Hep⟩ : ∃ x, Box (l.ep = x) := ⟨_, ⟨rfl⟩⟩
  obtain ⟨frm, Hfrm⟩ : ∃ x, Box (l.frm = x) := ⟨_, ⟨rfl⟩⟩
  rw [Hep.out] at c3 hep hep2 he0 he1 HAc HUp
  rw [Hfrm.out] at c1 hf HWr
  go_enter Tryd.func23, Tryd.ntmps23
  go_wp2_with fail
  have w1 : IntKind.i64.wrap (ep + 1) = ep + 1 := IntWalk.i64_in _ (by omega)
  have HBs2 := HBs
  rw [Hep.out, Hfrm.out] at HBs2
  have HM1 := box (HBx.out vl w w.drew HM0.out (Below.refl _ _).drew)
  go_region_held3 (fun w' => w'.cell? ⟨Lb, 0, none⟩ = some (.pointer (some ⟨D, 0, none⟩)) ∧ w'.cell? ⟨Lb, 1, none⟩ = some (.int .i64 (frm : Int)) ∧ w'.cell? ⟨Lb, 3, none⟩ = some (.int .i64 ep)) (first | exact ⟨c0, c1, c3⟩ | exact ⟨k4.1, k4.2.1, k4.2.2.1⟩ | exact ⟨k3.1, k3.2.1, k3.2.2.1⟩ | assumption) (first
    | (go_at_call 32; refine (HAc.out _).mono ?_; rintro e w3 ⟨rfl, hb3⟩; have HM3 := box (HBx.out vl _ w3 HM1.out hb3); have k3 := HBs2.out _ _ HM3.out; clear hb3)
    | (go_at_call 17; refine (HWr.out _ _ HM3.out).mono ?_; rintro e w4 ⟨rfl, vl4, hm4⟩; have HM4 := box hm4; have k4 := HCl.out D1 l vl4 w4 hm4; rw [Hep.out, Hfrm.out] at k4; clear hm4)
    | fail)
  clear c0 c1 c3 f3 hLl k3 HM3 HM1 HM0 HAc HWr HBs HBs2 w1 HBx
  obtain ⟨c0, c1, c3, f3, hLl⟩ := k4
  by_cases h1 : e1 = 0
  case neg =>
    have Hr := box (HR2.out.trans (if_pos h1))
    have hd : (e1 != 0) = true := by simpa using h1
    have hd2 : (e1 == 0) = false := by simpa using h1
    have HFx := box (HFa.out D1 vl4 w4 e1 HM4.out)
    clear h1 HR2 HFa HFl HUp HCl
    go_step
    go_wp2_with fail
    refine HFx.out.mono ?_
    rintro e w5 ⟨rfl, hm5⟩
    have HM5 := box hm5
    clear hm5 HFx
    go_wp2_with fail
    go_ret
    exact ⟨by rw [Hr.out]; rfl, by rw [Hr.out]; exact HM5.out⟩
  subst h1
  have HR3 := box (HR2.out.trans (if_neg (by simp)))
  have HFlx := box (HFl.out vl4 w4 HM4.out)
  clear HR2 HFl
  go_step
  go_wp2_with fail
  refine HFlx.out.mono ?_
  rintro e w5 ⟨rfl, vl5, hm5⟩
  have HM5 := box hm5
  have k5 := HCl.out D2 l vl5 w5 hm5
  rw [Hep.out] at k5
  clear hm5 HFlx c0 c1 c3 f3 hLl HM4
  obtain ⟨c0, c1, c3, f3, hLl⟩ := k5
  by_cases h2 : e2 = 0
  case neg =>
    have Hr := box (HR3.out.trans (if_pos h2))
    have hd : (e2 != 0) = true := by simpa using h2
    have hd2 : (e2 == 0) = false := by simpa using h2
    have HFx := box (HFa.out D2 vl5 w5 e2 HM5.out)
    clear h2 HR3 HFa HUp HCl
    go_wp2_with fail
    refine HFx.out.mono ?_
    rintro e w6 ⟨rfl, hm6⟩
    have HM6 := box hm6
    clear hm6 HFx
    go_wp2_with fail
    go_ret
    exact ⟨by rw [Hr.out]; rfl, by rw [Hr.out]; exact HM6.out⟩
  subst h2
  have Hr := box (HR3.out.trans (if_neg (by simp)))
  have HM6 := box (HUp.out D2 vl5 w5 HM5.out)
  clear HR3 HFa HUp HCl c1
  rw [Hep.out] at Hr
  go_wp2_with fail
  go_ret
  exact ⟨by rw [Hr.out]; rfl, by rw [Hr.out]; exact ⟨vl5, HM6.out⟩⟩
end Go.Proofs.YtpeaefeoogcepaaDoor
