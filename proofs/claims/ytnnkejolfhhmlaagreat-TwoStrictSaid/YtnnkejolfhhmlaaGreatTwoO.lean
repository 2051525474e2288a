/- two.Play: what it leaves, opened. -/
import Derived.Test.YtnnkejolfhhmlaaGreatTwoQ2
import Derived.Test.YtnnkejolfhhmlaaGreatLkWaits
import Derived.Test.YtnnkejolfhhmlaaGreatVic
import Derived.Deep.RegionHeld3
import Derived.Deep.LoopGhost
import Derived.Deep.QuietTactic
import Derived.BigQuiet
import Derived.BigRegion
import Derived.Test.YtnnkejolfhhmlaaGreatLkAsk
import Derived.Test.YtnnkejolfhhmlaaGreatTwoL
import Derived.Test.YtnnkejolfhhmlaaGreatRunCheck
import Derived.Test.YtnnkejolfhhmlaaGreatLkDropW
import Derived.Test.YtnnkejolfhhmlaaGreatChkI
namespace Go.Proofs.YtnnkejolfhhmlaaGreat
section
open Go.RowKit Go.Lib

namespace TwoM
open LkM
section
variable {V w1 wx W0 : World} {B Tb lc lo X OL oc j : Nat} {s : S} {v : Nat → Value} {la oa : Option Addr} {C : List Value}
theorem TwoW.rowFacts (h : TwoW V B Tb s v la lc lo W0) {i : Nat} (hi : i < 13) {R : Value} (hv : v i = R) (hX : Blk V X 30 C) (hne : R.ownBlock ≠ some X) (hg : V.grownBy wx R.ownBlock) {c : Nat} (hc : V.cell? ⟨Tb, c, none⟩ = some R) :
    wx.cell? ⟨Tb, c, none⟩ = some R ∧ wx.frozen? ⟨Tb, c, none⟩ = false ∧ Tb < wx.heap.size ∧ Blk wx X 30 C := by
  have hT : R.ownBlock ≠ some Tb := by rw [← hv]; exact h.rne hi
  have hb := h.blk.grown hg hT
  exact ⟨(World.cell?_of_block (a := ⟨Tb, c, none⟩) (hg.block Tb h.tlt (fun e => hT e.symm))).trans hc, hb.frozen _, hb.lt, hX.grown hg hne⟩
theorem TwoW.pushOut (h : TwoW V B Tb s v la lc lo W0) (hv : v 12 = .slice oa OL oc) (hOL : s.out.length = OL) {o : OpM} {g gc : Nat} (ho : w1.ownsRow B 30 3 (.slice (some ⟨g, 0, none⟩) (OL + 1) gc) (OL + 1) (opVals s.out ++ [.int .i64 o.tx, .int .i64 o.kind, .int .i64 o.item]))
    (hg : V.grownBy w1 (Value.slice oa OL oc).ownBlock) (hat : (Value.slice oa OL oc).ownBlock = some g ∨ V.heap.size ≤ g) :
    TwoW (w1.setCell ⟨Tb, 25, none⟩ (.slice (some ⟨g, 0, none⟩) (OL + 1) gc)) B Tb { s with out := s.out ++ [o] } (upd v 12 (.slice (some ⟨g, 0, none⟩) (OL + 1) gc)) la lc lo W0 ∧ Only B Tb v (upd v 12 (.slice (some ⟨g, 0, none⟩) (OL + 1) gc)) V (w1.setCell ⟨Tb, 25, none⟩ (.slice (some ⟨g, 0, none⟩) (OL + 1) gc)) :=
  h.setRow (s' := { s with out := s.out ++ [o] }) (i := 12) (by omega) (l := s.out ++ [o]) (by rw [List.length_append, hOL, opVals_append]; exact ho) (by rw [hv]; exact hg) (fun b hb => by
    have e : g = b := by simpa [Value.ownBlock] using hb
    subst e
    rw [hv]; exact hat) (rows_out rfl rfl) rfl (fun _ _ => rfl) 25 rfl
theorem TwoW.pushLate (h : TwoW V B Tb s v la lc lo W0) (hj : j < 12) (hv : v j = .slice oa OL oc) (hOL : (s.late j).length = OL) {o : OpM} {g gc : Nat} (ho : w1.ownsRow B 30 3 (.slice (some ⟨g, 0, none⟩) (OL + 1) gc) (OL + 1) (opVals (s.late j) ++ [.int .i64 o.tx, .int .i64 o.kind, .int .i64 o.item]))
    (hg : V.grownBy w1 (Value.slice oa OL oc).ownBlock) (hat : (Value.slice oa OL oc).ownBlock = some g ∨ V.heap.size ≤ g) :
    TwoW (w1.setCell ⟨Tb, 1 + j, none⟩ (.slice (some ⟨g, 0, none⟩) (OL + 1) gc)) B Tb { s with late := upd s.late j (s.late j ++ [o]) } (upd v j (.slice (some ⟨g, 0, none⟩) (OL + 1) gc)) la lc lo W0 ∧ Only B Tb v (upd v j (.slice (some ⟨g, 0, none⟩) (OL + 1) gc)) V (w1.setCell ⟨Tb, 1 + j, none⟩ (.slice (some ⟨g, 0, none⟩) (OL + 1) gc)) :=
  h.setRow (s' := { s with late := upd s.late j (s.late j ++ [o]) }) (i := j) (by omega) (l := s.late j ++ [o]) (by rw [List.length_append, hOL, opVals_append]; exact ho) (by rw [hv]; exact hg) (fun b hb => by
    have e : g = b := by simpa [Value.ownBlock] using hb
    subst e
    rw [hv]; exact hat) (rows_late hj rfl rfl) rfl (fun _ _ => rfl) (1 + j) (by rw [if_neg (by omega)])
end
/-- The edges that Waits tells are right for Victims. -/
theorem waits_check (t : List LiM) : GrM.check 12 (LkM.waits t) = 0 := by
  unfold GrM.check
  have hl := LkM.edgesOf_len (LkM.markT (fun _ _ => false) t) 12
  rw [if_neg (by omega), if_neg (by unfold LkM.waits; omega), if_pos]
  unfold GrM.formOk
  rw [List.all_eq_true]
  intro e he
  unfold LkM.waits at he
  obtain ⟨a, b, rfl, h1, h2, _⟩ := mem_edgesOf.1 he
  exact decide_eq_true ⟨by show (0 : Int) ≤ a; omega, by show (a : Int) < 12; omega, by show (0 : Int) ≤ b; omega, by show (b : Int) < 12; omega⟩
/-- The last of the victims' list is the greatest. -/
theorem last_of {out : List Nat} {r : List Int} (hp : r.Perm (GrM.ints out)) (hs : r.Pairwise (· ≤ ·)) (hr : 0 < r.length) : ∃ k : Nat, r[r.length - 1] = (k : Int) ∧ Last out k := by
  have hm : r[r.length - 1] ∈ GrM.ints out := hp.mem_iff.1 (List.getElem_mem _)
  unfold GrM.ints at hm
  obtain ⟨k, hk, e⟩ := List.mem_map.1 hm
  refine ⟨k, e.symm, hk, fun q hq => ?_⟩
  have hq' : (q : Int) ∈ r := hp.mem_iff.2 (List.mem_map.2 ⟨q, hq, rfl⟩)
  obtain ⟨i, hi, e2⟩ := List.mem_iff_getElem.1 hq'
  by_cases h : i = r.length - 1
  · subst h; omega
  · have := List.pairwise_iff_getElem.1 hs i (r.length - 1) hi (by omega) (by omega)
    omega
end TwoM
open TwoM in
set_option maxRecDepth 20000 in
set_option maxHeartbeats 16000000 in
theorem tfree_any (m : Nat) (hDr : DropSpec m) : FreeSpec (m + 1) := by
  intro B Tb w s v G p h hAt hI ht hm
  have HDr := box hDr; have HTo := box ht
  obtain ⟨i0, hi0, hz0, hz1, hz2⟩ := info_parts Tryz.infoOpQ
  have HPost : Box (∀ e w', e = Ending.returned (.tuple #[]) → (∃ s' v', Free s s' ∧ At w' B Tb s' v' ∧ Only B Tb v v' w w') → Post B Tb (Free s) v w e w') := ⟨fun e w' h1 h2 => ⟨h1, h2⟩⟩
  have hBw : B ≤ w.heap.size := by obtain ⟨_, _, _, _, h⟩ := hAt; exact h.bw
  have HSt : Box (∃ s' v', (∀ s'', Free s' s'' → Free s s'') ∧ At w B Tb s' v' ∧ Only B Tb v v' w w ∧ Inv s' G p h ∧ lates s' = lates s) := ⟨s, v, fun _ h => h, hAt, Only.refl _ _ _ _, hI, rfl⟩
  obtain ⟨PP, HPP⟩ : ∃ P, Box (Post B Tb (Free s) v w = P) := ⟨_, ⟨rfl⟩⟩
  rw [HPP.out] at HPost ⊢
  obtain ⟨L0, HL0⟩ : ∃ x, Box (lates s = x) := ⟨_, ⟨rfl⟩⟩
  rw [HL0.out] at HSt hm
  clear hDr ht hI hAt
  go_enter Tryz.func48, Tryz.ntmps48
  go_wp2_with fail
  go_loopg [] L0 (fun f wr => Box (f ≤ m + 1 ∧ ∃ s' v', (∀ s'', Free s' s'' → Free s s'') ∧ At wr B Tb s' v' ∧ Only B Tb v v' w wr ∧ Inv s' G p h ∧ lates s' = f))
  case atStart => exact ⟨hm, HSt.out⟩
  case round =>
    clear HSt
    obtain ⟨hf1, s', v', hFr, hAt', hOn, hI', hlf⟩ := hrel.out
    clear hrel
    obtain ⟨la, lc, lo, W0, hW⟩ := hAt'
    have HW := box hW
    have c0 := hW.cLocks
    have hTl := hW.tlt
    have hwt := waits_any s'.locks la lc lo wr hW.locks hI'.good.small
    have HBr : Box (B ≤ wr.heap.size) := ⟨hW.bw⟩
    have HFr := box hFr; have HOn := box hOn; have HI' := box hI'; have HLf := box hlf
    obtain ⟨TL, HTL⟩ : ∃ x, Box (s'.locks.length = x) := ⟨_, ⟨rfl⟩⟩
    rw [HTL.out] at hwt c0
    have HWt := box hwt
    clear hwt hW hFr hOn hI' hlf
    go_wp2_with fail
    refine HWt.out.mono ?_
    clear HWt c0
    rintro e w1 ⟨hb1, ⟨h1, _⟩ | ⟨_, ev, rfl, hev⟩⟩
    · exact absurd (LkM.check_iff.2 HI'.out.good) h1
    obtain ⟨ea, ec, rfl, _, heg, henil, _⟩ := EgsAt.own hev
    have hwl : (LkM.waits s'.locks).length ≤ 144 := by have := LkM.edgesOf_len (LkM.markT (fun _ _ => false) s'.locks) 12; unfold LkM.waits; omega
    have hvc := victims_any 12 (LkM.waits s'.locks) ea ec w1 heg henil (by omega)
    have HCk := box (TwoM.waits_check s'.locks)
    obtain ⟨es, HEs⟩ : ∃ x, Box (LkM.waits s'.locks = x) := ⟨_, ⟨rfl⟩⟩
    rw [HEs.out] at hvc HCk hwl ⊢
    have HVc := box hvc
    have HW1 := box (HW.out.after hb1)
    have HO1 : Box (Only B Tb v v' w w1) := ⟨HOn.out.after hb1 HBr.out⟩
    clear hvc heg hev hb1 henil HW HOn HBr
    obtain ⟨EL, HEL⟩ : ∃ x, Box (es.length = x) := ⟨_, ⟨rfl⟩⟩
    rw [HEL.out] at HVc hwl ⊢
    go_wp2_with fail
    refine HVc.out.mono ?_
    clear HVc
    rintro e w2 ⟨hb2, ⟨h1, _⟩ | ⟨_, out, r, rv, hV, hp, hsr, rfl, hrw⟩⟩
    · exact absurd HCk.out h1
    have HV : Box (VicM.Vic 12 (LkM.waits s'.locks) out) := ⟨by rw [HEs.out]; exact hV⟩
    have HW2 := box (HW1.out.after hb2)
    have HO2 : Box (Only B Tb v v' w w2) := ⟨HO1.out.after hb2 HW1.out.bw⟩
    obtain ⟨ra, rc, rfl, hrn, hrat, _, _⟩ := IntsAt.own hrw
    obtain ⟨RL, HRL⟩ : ∃ x, Box (r.length = x) := ⟨_, ⟨rfl⟩⟩
    have hrl : out.length = RL := by rw [← HRL.out, hp.length_eq]; simp [GrM.ints]
    rw [HRL.out]
    clear hb2 HW1 HO1 hV hrn HCk
    by_cases hR0 : RL = 0
    · have ho : out = [] := List.eq_nil_of_length_eq_zero (by rw [hrl]; exact hR0)
      have HFin : Box (PP (.returned (.tuple #[])) w2) := ⟨HPost.out _ _ rfl ⟨s', v', HFr.out _ (.done (by have := HV.out; rw [ho] at this; exact this)), ⟨_, _, _, _, HW2.out⟩, HO2.out⟩⟩
      clear hp hsr hrw hrat ho hrl HRL
      subst hR0
      go_wp2_with fail
      exact bodyPost_end (results_none rfl _ _ _) rfl HFin.out
    have hR1 : 0 < r.length := by rw [HRL.out]; omega
    obtain ⟨k, hk, hLk⟩ := TwoM.last_of hp hsr hR1
    obtain ⟨rb, roff, rfl, hrb, hrc⟩ := hrat.resolve_left (by intro h; rw [h] at hR1; simp at hR1)
    have r0 := hrc (r.length - 1) (by omega)
    rw [hk] at r0
    obtain ⟨hwk, hk12⟩ := vic_waits HI'.out.good HV.out hLk.1
    have HLk := box hLk; have HWk := box hwk
    have hlk0 : s'.late k ≠ [] := by
      obtain ⟨i, mm, h1⟩ := LkM.waiting_iff.1 hwk
      obtain ⟨o, q, h2, _⟩ := HI'.out.wait k i mm h1
      rw [h2]; simp
    have HKl : Box (lates (kill s' k) + 1 ≤ lates s') := ⟨by
      have := lates_kill (s := s') hk12
      have := List.length_pos_iff.2 hlk0
      omega⟩
    have hr0 : w2.cell? ⟨rb, roff + (RL - 1), none⟩ = some (.int .i64 (k : Int)) := by rw [← HRL.out]; exact r0
    have hkI : (k : Int) < 12 := by omega
    have hrli : (0 : Int) < (RL : Int) := by omega
    have hRL : RL ≤ 144 := by have h1 := HV.out.len; rw [HEs.out, HEL.out] at h1; omega
    clear hp hsr hrw hrat hk hLk hrc hwk hlk0 r0 hrl
    have HKi : Box (Inv { kill s' k with locks := (LkM.drop s'.locks (k : Int)).1 } ((LkM.drop s'.locks (k : Int)).2 ++ G) p h) := ⟨HI'.out.kills HWk.out⟩
    obtain ⟨hsm1, _⟩ := small HI'.out HTo.out
    obtain ⟨oa, oc, hv12, _, _, _, _⟩ := OpsAt.own HW2.out.out
    obtain ⟨OL, HOL⟩ : ∃ x, Box (s'.out.length = x) := ⟨_, ⟨rfl⟩⟩
    rw [HOL.out] at hv12 hsm1
    have zD := HW2.out.blk.frozen (13 + k)
    have cD := HW2.out.cDead hk12
    have HS3 := box (HW2.out.setDead hk12)
    have zL := HS3.out.1.blk.frozen (1 + k)
    have cL := HS3.out.1.cLate hk12
    have hT3 := HS3.out.1.tlt
    have HS4 := box (HS3.out.1.setRow (s' := { s' with dead := upd s'.dead k true, late := upd s'.late k [] }) (i := k) (by omega) (W' := w2.setCell ⟨Tb, 13 + k, none⟩ (.bool true)) (u := .slice none 0 0) (l := []) (World.ownsRow_nil _ _ _ _) ⟨rfl, rfl, rfl, Nat.le_refl _, fun _ _ _ => rfl⟩ (by intro b hb; cases hb) (rows_late hk12 rfl rfl) rfl (fun _ _ => rfl) (1 + k) (by rw [if_neg (by omega)]))
    have hT2 := HW2.out.tlt
    have HO4 : Box (Only B Tb v (upd v' k (.slice none 0 0)) w ((w2.setCell ⟨Tb, 13 + k, none⟩ (.bool true)).setCell ⟨Tb, 1 + k, none⟩ (.slice none 0 0))) := ⟨(HO2.out.trans HS3.out.2).trans HS4.out.2⟩
    have hTB : B ≤ Tb := HW2.out.base
    go_upto_region 6 with (fail)
    obtain ⟨W4, HW4⟩ : ∃ x, Box ((w2.setCell ⟨Tb, 13 + k, none⟩ (.bool true)).setCell ⟨Tb, 1 + k, none⟩ (.slice none 0 0) = x) := ⟨_, ⟨rfl⟩⟩
    rw [HW4.out] at HS4 HO4 ⊢
    clear HS3 zD zL cD cL hT2 hT3 hr0 hkI hrli
    have hv4 : upd v' k (.slice none 0 0) 12 = .slice oa OL oc := by rw [upd_other _ _ (by omega)]; exact hv12
    have HOut : Box (W4.ownsRow B 30 3 (.slice oa OL oc) OL (opVals s'.out)) := ⟨by
      have h1 : W4.ownsRow B 30 3 (.slice oa OL oc) s'.out.length (opVals s'.out) := by have := HS4.out.1.out; rwa [hv4] at this
      rwa [HOL.out] at h1⟩
    have hTn : (Value.slice oa OL oc).ownBlock ≠ some Tb := by rw [← hv4]; exact HS4.out.1.rne (by omega)
    have HCx : Box (∀ wx : World, W4.grownBy wx (Value.slice oa OL oc).ownBlock → wx.cell? ⟨Tb, 25, none⟩ = some (.slice oa OL oc) ∧ wx.frozen? ⟨Tb, 25, none⟩ = false ∧ Tb < wx.heap.size) := ⟨fun wx hg => by
      have hb := HS4.out.1.blk.grown hg hTn
      have e1 := HS4.out.1.cOut
      have hT := hg.block Tb HS4.out.1.tlt (fun e => hTn e.symm)
      rw [hv4] at e1
      exact ⟨(World.cell?_of_block (a := ⟨Tb, 25, none⟩) hT).trans e1, hb.frozen _, hb.lt⟩⟩
    have hown := HOut.out.alloc (.cells #[.int .i64 (k : Int), .int .i64 4, .int .i64 0] 30)
    obtain ⟨c4, z4, hT4⟩ := HCx.out W4 ⟨rfl, rfl, rfl, Nat.le_refl _, fun _ _ _ => rfl⟩
    have hBW4 : B ≤ W4.heap.size := HS4.out.1.bw
    go_wp2_with (at_builtin; go_must (refine wpList_append_lies _ rfl _ _ 22 rfl B 30 i0 _ 3 24 Tryz.underlying22 hi0 hz0 hz1 hz2 rfl (by decide) _ _ _ rfl hown ⟨W4.heap.size, 0, none⟩ 1 1 [.int .i64 (k : Int), .int .i64 4, .int .i64 0] rfl rfl (cells_new W4 [.int .i64 (k : Int), .int .i64 4, .int .i64 0] 30) (by simp [Value.oneCell']) (by decide) (by unfold maxLen; omega) (by omega) (by simp; omega) (W4.heap.size + 1) (by simp) ?_))
    intro gg gcap w7 hown7 hgrow7 hat7 hlt7
    have hb4 : Below W4.heap.size W4 (W4.alloc (.cells #[.int .i64 (k : Int), .int .i64 4, .int .i64 0] 30)) := (Below.refl _ _).alloc (Nat.le_refl _) _
    have hG7 : W4.grownBy w7 (Value.slice oa OL oc).ownBlock := ⟨hgrow7.os.trans hb4.os, hgrow7.tape.trans hb4.tape, hgrow7.output.trans hb4.output, Nat.le_trans hb4.size hgrow7.size, fun b h1 hne => (hgrow7.block b (Nat.lt_of_lt_of_le h1 hb4.size) hne).trans (hb4.block b h1)⟩
    obtain ⟨c7, z7, hT7⟩ := HCx.out w7 hG7
    have HS5 := box (HS4.out.1.pushOut (o := ⟨(k : Int), 4, 0⟩) hv4 HOL.out hown7 hG7 (hat7.imp id (fun e => by omega)))
    obtain ⟨u, Hu⟩ : ∃ x, Box (Value.slice (some ⟨gg, 0, none⟩) (OL + 1) gcap = x) := ⟨_, ⟨rfl⟩⟩
    obtain ⟨wc, HWc⟩ : ∃ x, Box (w7.setCell ⟨Tb, 25, none⟩ (.slice (some ⟨gg, 0, none⟩) (OL + 1) gcap) = x) := ⟨_, ⟨rfl⟩⟩
    rw [HWc.out, Hu.out] at HS5
    clear hown hown7 hgrow7 hat7 hb4 hG7 c4 z4 hT4
    have HCall := box (HDr.out B Tb wc (kill s' k) _ k G p h ⟨_, _, _, _, HS5.out.1⟩ HI'.out.good hk12 HKi.out HTo.out (by have := HKl.out; have := HLf.out; omega))
    have HNx : Box (∀ s3 v3 w6, Drops (kill s' k) k s3 → At w6 B Tb s3 v3 → Only B Tb (upd (upd v' k (.slice none 0 0)) 12 u) v3 wc w6 → ∃ f, f < gk ∧ Box (f ≤ m + 1 ∧ ∃ s' v', (∀ s'', Free s' s'' → Free s s'') ∧ At w6 B Tb s' v' ∧ Only B Tb v v' w w6 ∧ Inv s' G p h ∧ lates s' = f)) := ⟨fun s3 v3 w6 k1 k2 k3 => by
      obtain ⟨n1, n2, _⟩ := drops_inv k1 HI'.out.good HI'.out.plain HKi.out
      have n3 := HKl.out
      have n4 := HLf.out
      exact ⟨lates s3, by omega, ⟨by omega, s3, v3, fun s'' hF => HFr.out _ (.step HV.out HLk.out k1 hF), k2, (HO4.out.trans HS5.out.2).trans k3, n1, rfl⟩⟩⟩
    clear HS4 HO4 HCx HOut
    go_wp2_with fail
    rw [HWc.out]
    refine HCall.out.mono ?_
    rintro e w6 ⟨rfl, s3, v3, k1, k2, k3⟩
    obtain ⟨f, hf, HE⟩ := HNx.out s3 v3 w6 k1 k2 k3
    clear k1 k2 k3 HCall HNx
    go_wp2_with fail
    go_roundg f
    case measure => omega
    case rel => exact HE
end
section
open Go.RowKit Go.Lib

set_option maxRecDepth 20000 in
set_option maxHeartbeats 2000000 in
theorem mode_any (ox okd oi : Int) (w : World) : Calls Tryz.prog 47 #[.agg #[.int .i64 ox, .int .i64 okd, .int .i64 oi]] w fun e w' => e = .returned (.int .i64 (TwoM.mode ⟨ox, okd, oi⟩)) ∧ Below w.heap.size w w' := by
  have hB : Below w.heap.size w (w.alloc (.cells #[.int .i64 ox, .int .i64 okd, .int .i64 oi] 30)) := (Below.refl _ _).alloc (Nat.le_refl _) _
  by_cases h : okd = 2
  · have e : TwoM.mode ⟨ox, okd, oi⟩ = 5 := if_pos h
    rw [e]
    subst h
    go_enter Tryz.func47, Tryz.ntmps47
    go_wp2_with fail
    go_ret
    exact ⟨rfl, hB⟩
  · have e : TwoM.mode ⟨ox, okd, oi⟩ = 3 := if_neg h
    rw [e]
    have hd : (okd == 2) = false := by simp [h]
    go_enter Tryz.func47, Tryz.ntmps47
    go_wp2_with fail
    go_ret
    exact ⟨rfl, hB⟩
open TwoM in
set_option maxRecDepth 20000 in
set_option maxHeartbeats 16000000 in
theorem ttake_any (m : Nat) (hFr : FreeSpec (m + 1)) (hDr : DropSpec m) : TakeSpec (m + 1) := by
  intro B Tb w s v o j G p h hAt hj hb hI ht hm
  have HFr := box hFr; have HDr := box hDr; have HTo := box ht; have HI := box hI
  obtain ⟨i0, hi0, hz0, hz1, hz2⟩ := info_parts Tryz.infoOpQ
  have hbz := RunM.bad_zero hb
  obtain ⟨ox, okd, oi⟩ := o
  dsimp only at hj hbz
  subst hj
  have hj12 : j < 12 := by omega
  have hji : (j : Int) < 12 := by omega
  have HBad := box hb
  clear hbz
  have HPost : Box (∀ e w', e = Ending.returned (.tuple #[]) → (∃ s' v', Take s ⟨j, okd, oi⟩ s' ∧ At w' B Tb s' v' ∧ Only B Tb v v' w w') → Post B Tb (Take s ⟨j, okd, oi⟩) v w e w') := ⟨fun e w' h1 h2 => ⟨h1, h2⟩⟩
  obtain ⟨PP, HPP⟩ : ∃ P, Box (Post B Tb (Take s ⟨j, okd, oi⟩) v w = P) := ⟨_, ⟨rfl⟩⟩
  dsimp only
  rw [HPP.out] at HPost ⊢
  obtain ⟨hsm1, hsm2⟩ := small hI ht
  have hsm2 := hsm2 j
  obtain ⟨X, HX⟩ : ∃ x, Box (w.heap.size = x) := ⟨_, ⟨rfl⟩⟩
  have hal : Below w.heap.size w (w.alloc (.cells #[.int .i64 j, .int .i64 okd, .int .i64 oi] 30)) := (Below.refl _ _).alloc (Nat.le_refl _) _
  obtain ⟨la, lc, lo, W0, hW0⟩ := hAt
  have HOn : Box (Only B Tb v v w (w.alloc (.cells #[.int .i64 j, .int .i64 okd, .int .i64 oi] 30))) := ⟨(Only.refl _ _ _ _).after hal hW0.bw⟩
  have HW := box (hW0.after hal)
  have hXT : X ≠ Tb := by have := hW0.tlt; have := HX.out; omega
  have HXr : Box (∀ i, i < 13 → (v i).ownBlock ≠ some X) := ⟨fun i hi e => by have := (hW0.rlt hi e).2; have := HX.out; omega⟩
  have HXb : Box (Blk (w.alloc (.cells #[.int .i64 j, .int .i64 okd, .int .i64 oi] 30)) X 30 [.int .i64 j, .int .i64 okd, .int .i64 oi]) := ⟨Blk.new' HX.out _ _⟩
  clear hal hW0 hFr hDr hI ht hb
  go_enter Tryz.func25, Tryz.ntmps25
  go_upto_region 1 with (fail)
  rw [HX.out]
  obtain ⟨V, HV⟩ : ∃ x, Box (w.alloc (.cells #[.int .i64 j, .int .i64 okd, .int .i64 oi] 30) = x) := ⟨_, ⟨rfl⟩⟩
  rw [HV.out] at HOn HW HXb ⊢
  have x0 := HXb.out.cell (i := 0) rfl
  have x1 := HXb.out.cell (i := 1) rfl
  have x2 := HXb.out.cell (i := 2) rfl
  have hXl := HXb.out.lt
  have cD := HW.out.cDead hj12
  have hTl := HW.out.tlt
  obtain ⟨d, HD⟩ : ∃ x, Box (s.dead j = x) := ⟨_, ⟨rfl⟩⟩
  rw [HD.out] at cD
  go_quiet (fail)
  have hq : Below V.heap.size V (V.drewN nq) := ⟨rfl, rfl, rfl, Nat.le_refl _, fun _ _ => rfl⟩
  have HW1 := box (HW.out.after hq)
  have HXb1 := box (HXb.out.after hq)
  have HOn1 : Box (Only B Tb v v w (V.drewN nq)) := ⟨HOn.out.after hq HW.out.bw⟩
  obtain ⟨V1, HV1⟩ : ∃ x, Box (V.drewN nq = x) := ⟨_, ⟨rfl⟩⟩
  rw [HV1.out] at HW1 HXb1 HOn1 ⊢
  clear x0 x1 x2 cD hXl hTl HW HXb HOn hq HV HV1
  cases d with
  | true =>
    have HFin := box (HPost.out _ V1 rfl ⟨s, v, .dead rfl HD.out, ⟨_, _, _, _, HW1.out⟩, HOn1.out⟩)
    go_wp2_with fail
    exact bodyPost_end (results_none rfl _ _ _) rfl HFin.out
  | false =>
    obtain ⟨oa, oc, hvj, _, _, _, _⟩ := OpsAt.own (HW1.out.late hj12)
    obtain ⟨LL, HLL⟩ : ∃ x, Box ((s.late j).length = x) := ⟨_, ⟨rfl⟩⟩
    rw [HLL.out] at hvj hsm2
    have x0 := HXb1.out.cell (i := 0) rfl
    have hXl := HXb1.out.lt
    have hTl := HW1.out.tlt
    have cL := HW1.out.cLate hj12
    rw [hvj] at cL
    go_upto_region 2 with (fail)
    go_quiet (fail)
    have hq : Below V1.heap.size V1 (V1.drewN nq) := ⟨rfl, rfl, rfl, Nat.le_refl _, fun _ _ => rfl⟩
    have HW2 := box (HW1.out.after hq)
    have HXb2 := box (HXb1.out.after hq)
    have HOn2 : Box (Only B Tb v v w (V1.drewN nq)) := ⟨HOn1.out.after hq HW1.out.bw⟩
    obtain ⟨V2, HV2⟩ : ∃ x, Box (V1.drewN nq = x) := ⟨_, ⟨rfl⟩⟩
    rw [HV2.out] at HW2 HXb2 HOn2 ⊢
    clear x0 cL hXl hTl HW1 HXb1 HOn1 hq HV2
    have x0 := HXb2.out.cell (i := 0) rfl
    have x1 := HXb2.out.cell (i := 1) rfl
    have x2 := HXb2.out.cell (i := 2) rfl
    have hXl := HXb2.out.lt
    have hTl := HW2.out.tlt
    by_cases hL : 0 < LL
    · have hLi : (0 : Int) < (LL : Int) := by omega
      have dL : decide ((0 : Int) < (LL : Int)) = true := decide_eq_true hLi
      go_upto_region 3 with (fail)
      have hne : (Value.slice oa LL oc).ownBlock ≠ some X := by rw [← hvj]; exact HXr.out j (by omega)
      have HOut : Box (V2.ownsRow B 30 3 (.slice oa LL oc) LL (opVals (s.late j))) := ⟨by
        have h1 := HW2.out.late hj12
        rwa [hvj, HLL.out] at h1⟩
      have HCx : Box (∀ wx : World, V2.grownBy wx (Value.slice oa LL oc).ownBlock → wx.cell? ⟨Tb, 1 + j, none⟩ = some (.slice oa LL oc) ∧ wx.frozen? ⟨Tb, 1 + j, none⟩ = false ∧ Tb < wx.heap.size ∧ Blk wx X 30 [.int .i64 (j : Int), .int .i64 okd, .int .i64 oi]) := ⟨fun wx hg => HW2.out.rowFacts (by omega) hvj HXb2.out hne hg (by have h1 := HW2.out.cLate hj12; rwa [hvj] at h1)⟩
      have hB2 : B ≤ V2.heap.size := HW2.out.bw
      go_cut [] from 8 to 98 (fun wx => ∃ u, Box (TwoW wx B Tb { s with late := upd s.late j (s.late j ++ [⟨j, okd, oi⟩]) } (upd v j u) la lc lo W0 ∧ Only B Tb v (upd v j u) V2 wx))
      case first => as_aux_lemma =>
        obtain ⟨PV, HPV⟩ : ∃ PV : Nat → Option Value, Box (PV = fun i => ([some (.pointer (some ⟨Tb, 0, none⟩)), some (.pointer (some ⟨X, 0, none⟩)), some (.int .i64 (j : Int)), some (.pointer (some ⟨Tb, 0, none⟩)), some (.pointer (some ⟨X, 0, none⟩)), some (.int .i64 (j : Int)), some (.pointer (some ⟨Tb, 0, none⟩)), some (.pointer (some ⟨Tb, 1, none⟩)), some (.pointer (some ⟨Tb, 1 + j, none⟩)), some (.slice oa LL oc), some (.agg #[.int .i64 (j : Int), .int .i64 okd, .int .i64 oi]), none, none, some (.pointer (some ⟨Tb, 0, none⟩)), some (.pointer (some ⟨Tb, 1, none⟩)), some (.pointer (some ⟨Tb, 1 + j, none⟩)), none] : List (Option Value)).getD i none) := ⟨_, ⟨rfl⟩⟩
        refine wp_region_dagv (by kernel_rfl) (fun Lf vals wx => (∀ i v, PV i = some v → Lf.getD i false = true → vals i = v) ∧ PutR V2 (.slice oa LL oc) B 30 3 LL (opVals (s.late j)) ⟨Tb, 1 + j, none⟩ [.int .i64 (j : Int), .int .i64 okd, .int .i64 oi] (Lf.getD 11 false) (Lf.getD 12 false) (Lf.getD 16 false) (vals 11) (vals 12) wx) (by kernel_rfl) ?_ ?_ ?_
        · refine ⟨fun i v _ h => absurd h (by simp [Array.getD_eq_getD_getElem?, Array.getElem?_replicate]; try (split <;> simp)), ?_⟩
          simp only [Array.getD_eq_getD_getElem?, Array.getElem?_replicate, List.size_toArray, List.length_cons, List.length_nil, Nat.reduceAdd, Nat.reduceLT, if_true, Option.getD_some]
          exact PutR.start
        · intro i hi o ho Lf vals b wx hat haft hL hR
          obtain ⟨hP, hS⟩ := hR
          have hco := hat.const
          have hkeep : ∀ i v, (PV i = some v ∨ PV i = none) → Lf.getD i true = false → (∀ j u, PV j = some u → (Lf.setIfInBounds i true).getD j false = true → Dag.turn vals i v j = u) := fun i v hv hL j u hu hj => by
            by_cases e : j = i
            · subst e; rw [Dag.turn_same]; rcases hv with hv | hv <;> rw [hv] at hu <;> simp at hu; exact hu
            · rw [Dag.turn_other _ _ e]; rw [getD_set_ne false (Ne.symm e)] at hj; exact hP j u hu hj
          have r0 : b.eval (.tmp 0) = .pointer (some ⟨Tb, 0, none⟩) := hat.old 0 (by
            intro j o' hj
            match j with
            | 0 | 1 | 2 | 3 | 4 | 5 | 6 | 7 | 8 | 9 | 10 | 11 | 12 | 13 | 14 | 15 | 16 => injection hj with hj; subst hj; simp
            | j + 17 => cases hj)
          have r3 : b.eval (.tmp 3) = .pointer (some ⟨X, 0, none⟩) := hat.old 3 (by
            intro j o' hj
            match j with
            | 0 | 1 | 2 | 3 | 4 | 5 | 6 | 7 | 8 | 9 | 10 | 11 | 12 | 13 | 14 | 15 | 16 => injection hj with hj; subst hj; simp
            | j + 17 => cases hj)
          match i, hi with
          | 0, _ =>
            injection ho with ho
            subst ho
            have q16 : Lf.getD 16 false = false := by
              cases h : Lf.getD 16 false with
              | false => rfl
              | true => have := hat.closed 16 _ h rfl ⟨0, .phase⟩ (by simp) rfl; rw [Dag.off hL] at this; cases this
            have hg := hS.g q16
            obtain ⟨c1, z1, hTx, hXx⟩ := HCx.out wx hg
            have y0 := hXx.cell (i := 0) rfl
            have y1 := hXx.cell (i := 1) rfl
            have y2 := hXx.cell (i := 2) rfl
            have hXl2 := hXx.lt
            refine Dag.yields (w' := wx) (.pointer (some ⟨Tb, 0, none⟩)) ?_ ⟨.pointer (some ⟨Tb, 0, none⟩), rfl, hkeep 0 _ (Or.inl (by rw [HPV.out]; rfl)) hL, ?_⟩
            · clear hP hS hat haft hkeep hL hg q16
              generalize b.eval = ρ at *
              go_simp
            · simp only [getD_set_ne false (show 0 ≠ 11 by decide), getD_set_ne false (show 0 ≠ 12 by decide), getD_set_ne false (show 0 ≠ 16 by decide), Dag.turn_other vals (i := 0) (j := 11) _ (by decide), Dag.turn_other vals (i := 0) (j := 12) _ (by decide)]
              exact hS
          | 1, _ =>
            injection ho with ho
            subst ho
            have q16 : Lf.getD 16 false = false := by
              cases h : Lf.getD 16 false with
              | false => rfl
              | true => have := hat.closed 16 _ h rfl ⟨1, .phase⟩ (by simp) rfl; rw [Dag.off hL] at this; cases this
            have hg := hS.g q16
            obtain ⟨c1, z1, hTx, hXx⟩ := HCx.out wx hg
            have y0 := hXx.cell (i := 0) rfl
            have y1 := hXx.cell (i := 1) rfl
            have y2 := hXx.cell (i := 2) rfl
            have hXl2 := hXx.lt
            refine Dag.yields (w' := wx) (.pointer (some ⟨X, 0, none⟩)) ?_ ⟨.pointer (some ⟨X, 0, none⟩), rfl, hkeep 1 _ (Or.inl (by rw [HPV.out]; rfl)) hL, ?_⟩
            · clear hP hS hat haft hkeep hL hg q16
              generalize b.eval = ρ at *
              go_simp
            · simp only [getD_set_ne false (show 1 ≠ 11 by decide), getD_set_ne false (show 1 ≠ 12 by decide), getD_set_ne false (show 1 ≠ 16 by decide), Dag.turn_other vals (i := 1) (j := 11) _ (by decide), Dag.turn_other vals (i := 1) (j := 12) _ (by decide)]
              exact hS
          | 2, _ =>
            injection ho with ho
            subst ho
            have e26 : b.eval (.tmp 26) = .pointer (some ⟨X, 0, none⟩) := (hat.new 1 _ 26 (haft ⟨1, .data⟩ (by simp) rfl) rfl rfl).trans (hP 1 _ (by rw [HPV.out]; rfl) (haft ⟨1, .data⟩ (by simp) rfl))
            have q16 : Lf.getD 16 false = false := by
              cases h : Lf.getD 16 false with
              | false => rfl
              | true => have := hat.closed 16 _ h rfl ⟨2, .phase⟩ (by simp) rfl; rw [Dag.off hL] at this; cases this
            have hg := hS.g q16
            obtain ⟨c1, z1, hTx, hXx⟩ := HCx.out wx hg
            have y0 := hXx.cell (i := 0) rfl
            have y1 := hXx.cell (i := 1) rfl
            have y2 := hXx.cell (i := 2) rfl
            have hXl2 := hXx.lt
            refine Dag.yields (w' := wx) (.int .i64 (j : Int)) ?_ ⟨.int .i64 (j : Int), rfl, hkeep 2 _ (Or.inl (by rw [HPV.out]; rfl)) hL, ?_⟩
            · clear hP hS hat haft hkeep hL hg q16
              generalize b.eval = ρ at *
              go_simp
            · simp only [getD_set_ne false (show 2 ≠ 11 by decide), getD_set_ne false (show 2 ≠ 12 by decide), getD_set_ne false (show 2 ≠ 16 by decide), Dag.turn_other vals (i := 2) (j := 11) _ (by decide), Dag.turn_other vals (i := 2) (j := 12) _ (by decide)]
              exact hS
          | 3, _ =>
            injection ho with ho
            subst ho
            have q16 : Lf.getD 16 false = false := by
              cases h : Lf.getD 16 false with
              | false => rfl
              | true => have := hat.closed 16 _ h rfl ⟨3, .phase⟩ (by simp) rfl; rw [Dag.off hL] at this; cases this
            have hg := hS.g q16
            obtain ⟨c1, z1, hTx, hXx⟩ := HCx.out wx hg
            have y0 := hXx.cell (i := 0) rfl
            have y1 := hXx.cell (i := 1) rfl
            have y2 := hXx.cell (i := 2) rfl
            have hXl2 := hXx.lt
            refine Dag.yields (w' := wx) (.pointer (some ⟨Tb, 0, none⟩)) ?_ ⟨.pointer (some ⟨Tb, 0, none⟩), rfl, hkeep 3 _ (Or.inl (by rw [HPV.out]; rfl)) hL, ?_⟩
            · clear hP hS hat haft hkeep hL hg q16
              generalize b.eval = ρ at *
              go_simp
            · simp only [getD_set_ne false (show 3 ≠ 11 by decide), getD_set_ne false (show 3 ≠ 12 by decide), getD_set_ne false (show 3 ≠ 16 by decide), Dag.turn_other vals (i := 3) (j := 11) _ (by decide), Dag.turn_other vals (i := 3) (j := 12) _ (by decide)]
              exact hS
          | 4, _ =>
            injection ho with ho
            subst ho
            have q16 : Lf.getD 16 false = false := by
              cases h : Lf.getD 16 false with
              | false => rfl
              | true => have := hat.closed 16 _ h rfl ⟨4, .phase⟩ (by simp) rfl; rw [Dag.off hL] at this; cases this
            have hg := hS.g q16
            obtain ⟨c1, z1, hTx, hXx⟩ := HCx.out wx hg
            have y0 := hXx.cell (i := 0) rfl
            have y1 := hXx.cell (i := 1) rfl
            have y2 := hXx.cell (i := 2) rfl
            have hXl2 := hXx.lt
            refine Dag.yields (w' := wx) (.pointer (some ⟨X, 0, none⟩)) ?_ ⟨.pointer (some ⟨X, 0, none⟩), rfl, hkeep 4 _ (Or.inl (by rw [HPV.out]; rfl)) hL, ?_⟩
            · clear hP hS hat haft hkeep hL hg q16
              generalize b.eval = ρ at *
              go_simp
            · simp only [getD_set_ne false (show 4 ≠ 11 by decide), getD_set_ne false (show 4 ≠ 12 by decide), getD_set_ne false (show 4 ≠ 16 by decide), Dag.turn_other vals (i := 4) (j := 11) _ (by decide), Dag.turn_other vals (i := 4) (j := 12) _ (by decide)]
              exact hS
          | 5, _ =>
            injection ho with ho
            subst ho
            have e29 : b.eval (.tmp 29) = .pointer (some ⟨X, 0, none⟩) := (hat.new 4 _ 29 (haft ⟨4, .data⟩ (by simp) rfl) rfl rfl).trans (hP 4 _ (by rw [HPV.out]; rfl) (haft ⟨4, .data⟩ (by simp) rfl))
            have q16 : Lf.getD 16 false = false := by
              cases h : Lf.getD 16 false with
              | false => rfl
              | true => have := hat.closed 16 _ h rfl ⟨5, .phase⟩ (by simp) rfl; rw [Dag.off hL] at this; cases this
            have hg := hS.g q16
            obtain ⟨c1, z1, hTx, hXx⟩ := HCx.out wx hg
            have y0 := hXx.cell (i := 0) rfl
            have y1 := hXx.cell (i := 1) rfl
            have y2 := hXx.cell (i := 2) rfl
            have hXl2 := hXx.lt
            refine Dag.yields (w' := wx) (.int .i64 (j : Int)) ?_ ⟨.int .i64 (j : Int), rfl, hkeep 5 _ (Or.inl (by rw [HPV.out]; rfl)) hL, ?_⟩
            · clear hP hS hat haft hkeep hL hg q16
              generalize b.eval = ρ at *
              go_simp
            · simp only [getD_set_ne false (show 5 ≠ 11 by decide), getD_set_ne false (show 5 ≠ 12 by decide), getD_set_ne false (show 5 ≠ 16 by decide), Dag.turn_other vals (i := 5) (j := 11) _ (by decide), Dag.turn_other vals (i := 5) (j := 12) _ (by decide)]
              exact hS
          | 6, _ =>
            injection ho with ho
            subst ho
            have e28 : b.eval (.tmp 28) = .pointer (some ⟨Tb, 0, none⟩) := (hat.new 3 _ 28 (haft ⟨3, .data⟩ (by simp) rfl) rfl rfl).trans (hP 3 _ (by rw [HPV.out]; rfl) (haft ⟨3, .data⟩ (by simp) rfl))
            have q16 : Lf.getD 16 false = false := by
              cases h : Lf.getD 16 false with
              | false => rfl
              | true => have := hat.closed 16 _ h rfl ⟨6, .phase⟩ (by simp) rfl; rw [Dag.off hL] at this; cases this
            have hg := hS.g q16
            obtain ⟨c1, z1, hTx, hXx⟩ := HCx.out wx hg
            have y0 := hXx.cell (i := 0) rfl
            have y1 := hXx.cell (i := 1) rfl
            have y2 := hXx.cell (i := 2) rfl
            have hXl2 := hXx.lt
            refine Dag.yields (w' := wx) (.pointer (some ⟨Tb, 0, none⟩)) ?_ ⟨.pointer (some ⟨Tb, 0, none⟩), rfl, hkeep 6 _ (Or.inl (by rw [HPV.out]; rfl)) hL, ?_⟩
            · clear hP hS hat haft hkeep hL hg q16
              generalize b.eval = ρ at *
              go_simp
            · simp only [getD_set_ne false (show 6 ≠ 11 by decide), getD_set_ne false (show 6 ≠ 12 by decide), getD_set_ne false (show 6 ≠ 16 by decide), Dag.turn_other vals (i := 6) (j := 11) _ (by decide), Dag.turn_other vals (i := 6) (j := 12) _ (by decide)]
              exact hS
          | 7, _ =>
            injection ho with ho
            subst ho
            have e31 : b.eval (.tmp 31) = .pointer (some ⟨Tb, 0, none⟩) := (hat.new 6 _ 31 (haft ⟨6, .data⟩ (by simp) rfl) rfl rfl).trans (hP 6 _ (by rw [HPV.out]; rfl) (haft ⟨6, .data⟩ (by simp) rfl))
            have q16 : Lf.getD 16 false = false := by
              cases h : Lf.getD 16 false with
              | false => rfl
              | true => have := hat.closed 16 _ h rfl ⟨7, .phase⟩ (by simp) rfl; rw [Dag.off hL] at this; cases this
            have hg := hS.g q16
            obtain ⟨c1, z1, hTx, hXx⟩ := HCx.out wx hg
            have y0 := hXx.cell (i := 0) rfl
            have y1 := hXx.cell (i := 1) rfl
            have y2 := hXx.cell (i := 2) rfl
            have hXl2 := hXx.lt
            refine Dag.yields (w' := wx) (.pointer (some ⟨Tb, 1, none⟩)) ?_ ⟨.pointer (some ⟨Tb, 1, none⟩), rfl, hkeep 7 _ (Or.inl (by rw [HPV.out]; rfl)) hL, ?_⟩
            · clear hP hS hat haft hkeep hL hg q16
              generalize b.eval = ρ at *
              go_simp
            · simp only [getD_set_ne false (show 7 ≠ 11 by decide), getD_set_ne false (show 7 ≠ 12 by decide), getD_set_ne false (show 7 ≠ 16 by decide), Dag.turn_other vals (i := 7) (j := 11) _ (by decide), Dag.turn_other vals (i := 7) (j := 12) _ (by decide)]
              exact hS
          | 8, _ =>
            injection ho with ho
            subst ho
            have e32 : b.eval (.tmp 32) = .pointer (some ⟨Tb, 1, none⟩) := (hat.new 7 _ 32 (haft ⟨7, .data⟩ (by simp) rfl) rfl rfl).trans (hP 7 _ (by rw [HPV.out]; rfl) (haft ⟨7, .data⟩ (by simp) rfl))
            have e30 : b.eval (.tmp 30) = .int .i64 (j : Int) := (hat.new 5 _ 30 (haft ⟨5, .data⟩ (by simp) rfl) rfl rfl).trans (hP 5 _ (by rw [HPV.out]; rfl) (haft ⟨5, .data⟩ (by simp) rfl))
            have q16 : Lf.getD 16 false = false := by
              cases h : Lf.getD 16 false with
              | false => rfl
              | true => have := hat.closed 16 _ h rfl ⟨8, .phase⟩ (by simp) rfl; rw [Dag.off hL] at this; cases this
            have hg := hS.g q16
            obtain ⟨c1, z1, hTx, hXx⟩ := HCx.out wx hg
            have y0 := hXx.cell (i := 0) rfl
            have y1 := hXx.cell (i := 1) rfl
            have y2 := hXx.cell (i := 2) rfl
            have hXl2 := hXx.lt
            refine Dag.yields (w' := wx) (.pointer (some ⟨Tb, 1 + j, none⟩)) ?_ ⟨.pointer (some ⟨Tb, 1 + j, none⟩), rfl, hkeep 8 _ (Or.inl (by rw [HPV.out]; rfl)) hL, ?_⟩
            · clear hP hS hat haft hkeep hL hg q16
              generalize b.eval = ρ at *
              go_simp
            · simp only [getD_set_ne false (show 8 ≠ 11 by decide), getD_set_ne false (show 8 ≠ 12 by decide), getD_set_ne false (show 8 ≠ 16 by decide), Dag.turn_other vals (i := 8) (j := 11) _ (by decide), Dag.turn_other vals (i := 8) (j := 12) _ (by decide)]
              exact hS
          | 9, _ =>
            injection ho with ho
            subst ho
            have e33 : b.eval (.tmp 33) = .pointer (some ⟨Tb, 1 + j, none⟩) := (hat.new 8 _ 33 (haft ⟨8, .data⟩ (by simp) rfl) rfl rfl).trans (hP 8 _ (by rw [HPV.out]; rfl) (haft ⟨8, .data⟩ (by simp) rfl))
            have q16 : Lf.getD 16 false = false := by
              cases h : Lf.getD 16 false with
              | false => rfl
              | true => have := hat.closed 16 _ h rfl ⟨9, .phase⟩ (by simp) rfl; rw [Dag.off hL] at this; cases this
            have hg := hS.g q16
            obtain ⟨c1, z1, hTx, hXx⟩ := HCx.out wx hg
            have y0 := hXx.cell (i := 0) rfl
            have y1 := hXx.cell (i := 1) rfl
            have y2 := hXx.cell (i := 2) rfl
            have hXl2 := hXx.lt
            refine Dag.yields (w' := wx) (.slice oa LL oc) ?_ ⟨.slice oa LL oc, rfl, hkeep 9 _ (Or.inl (by rw [HPV.out]; rfl)) hL, ?_⟩
            · clear hP hS hat haft hkeep hL hg q16
              generalize b.eval = ρ at *
              go_simp
            · simp only [getD_set_ne false (show 9 ≠ 11 by decide), getD_set_ne false (show 9 ≠ 12 by decide), getD_set_ne false (show 9 ≠ 16 by decide), Dag.turn_other vals (i := 9) (j := 11) _ (by decide), Dag.turn_other vals (i := 9) (j := 12) _ (by decide)]
              exact hS
          | 10, _ =>
            injection ho with ho
            subst ho
            have q16 : Lf.getD 16 false = false := by
              cases h : Lf.getD 16 false with
              | false => rfl
              | true => have := hat.closed 16 _ h rfl ⟨10, .phase⟩ (by simp) rfl; rw [Dag.off hL] at this; cases this
            have hg := hS.g q16
            obtain ⟨c1, z1, hTx, hXx⟩ := HCx.out wx hg
            have y0 := hXx.cell (i := 0) rfl
            have y1 := hXx.cell (i := 1) rfl
            have y2 := hXx.cell (i := 2) rfl
            have hXl2 := hXx.lt
            refine Dag.yields (w' := wx) (.agg #[.int .i64 (j : Int), .int .i64 okd, .int .i64 oi]) ?_ ⟨.agg #[.int .i64 (j : Int), .int .i64 okd, .int .i64 oi], rfl, hkeep 10 _ (Or.inl (by rw [HPV.out]; rfl)) hL, ?_⟩
            · clear hP hS hat haft hkeep hL hg q16
              generalize b.eval = ρ at *
              go_simp
            · simp only [getD_set_ne false (show 10 ≠ 11 by decide), getD_set_ne false (show 10 ≠ 12 by decide), getD_set_ne false (show 10 ≠ 16 by decide), Dag.turn_other vals (i := 10) (j := 11) _ (by decide), Dag.turn_other vals (i := 10) (j := 12) _ (by decide)]
              exact hS
          | 11, _ =>
            injection ho with ho
            subst ho
            have e35 : b.eval (.tmp 35) = .agg #[.int .i64 (j : Int), .int .i64 okd, .int .i64 oi] := (hat.new 10 _ 35 (haft ⟨10, .data⟩ (by simp) rfl) rfl rfl).trans (hP 10 _ (by rw [HPV.out]; rfl) (haft ⟨10, .data⟩ (by simp) rfl))
            have q16 : Lf.getD 16 false = false := by
              cases h : Lf.getD 16 false with
              | false => rfl
              | true => have := hat.closed 16 _ h rfl ⟨11, .phase⟩ (by simp) rfl; rw [Dag.off hL] at this; cases this
            have hg := hS.g q16
            obtain ⟨c1, z1, hTx, hXx⟩ := HCx.out wx hg
            have y0 := hXx.cell (i := 0) rfl
            have y1 := hXx.cell (i := 1) rfl
            have y2 := hXx.cell (i := 2) rfl
            have hXl2 := hXx.lt
            have q12 : Lf.getD 12 false = false := by
              cases h : Lf.getD 12 false with
              | false => rfl
              | true => have := hat.closed 12 _ h rfl ⟨11, .data⟩ (by simp) rfl; rw [Dag.off hL] at this; cases this
            rw [q12, q16, Dag.off hL] at hS
            refine Dag.yields (w' := wx.alloc (.cells #[.int .i64 (j : Int), .int .i64 okd, .int .i64 oi] 30)) (.slice (some ⟨wx.heap.size, 0, none⟩) 1 1) ?_ ⟨_, rfl, hkeep 11 _ (Or.inr (by rw [HPV.out]; rfl)) hL, ?_⟩
            · clear hP hS hat haft hkeep hL hg
              generalize b.eval = ρ at *
              go_simp
            rw [Dag.on hL]
            simp only [getD_set_ne false (show 11 ≠ 12 by decide), getD_set_ne false (show 11 ≠ 16 by decide), Dag.turn_same, Dag.turn_other vals (i := 11) (j := 12) _ (by decide)]
            rw [q12, q16]
            exact hS.lay
          | 12, _ =>
            injection ho with ho
            subst ho
            have e34 : b.eval (.tmp 34) = .slice oa LL oc := (hat.new 9 _ 34 (haft ⟨9, .data⟩ (by simp) rfl) rfl rfl).trans (hP 9 _ (by rw [HPV.out]; rfl) (haft ⟨9, .data⟩ (by simp) rfl))
            have e36 : b.eval (.tmp 36) = vals 11 := hat.new 11 _ 36 (haft ⟨11, .data⟩ (by simp) rfl) rfl rfl
            have l11 : Lf.getD 11 false = true := haft ⟨11, .data⟩ (by simp) rfl
            have q16 : Lf.getD 16 false = false := by
              cases h : Lf.getD 16 false with
              | false => rfl
              | true => have := hat.closed 16 _ h rfl ⟨12, .phase⟩ (by simp) rfl; rw [Dag.off hL] at this; cases this
            have hg := hS.g q16
            obtain ⟨c1, z1, hTx, hXx⟩ := HCx.out wx hg
            have y0 := hXx.cell (i := 0) rfl
            have y1 := hXx.cell (i := 1) rfl
            have y2 := hXx.cell (i := 2) rfl
            have hXl2 := hXx.lt
            rw [l11, q16, Dag.off hL] at hS
            have hbl := hS.a rfl rfl
            have hown := ownsRow_below (HOut.out) hbl
            have hvb := hS.b rfl
            have hkb := hS.k rfl rfl rfl
            have hsz := hbl.size
            refine wp_append_lies wx _ _ 22 rfl (B) 30 i0 _ 3 24 Tryz.underlying22 hi0 hz0 hz1 hz2 rfl (by decide) (.slice oa LL oc) (LL) (opVals (s.late j)) e34 hown ⟨_, 0, none⟩ 1 1 [.int .i64 (j : Int), .int .i64 okd, .int .i64 oi] (e36.trans hvb) rfl (World.news_of_block (cs := #[.int .i64 (j : Int), .int .i64 okd, .int .i64 oi]) (t := 30) (fr := (0, 0)) hkb) (by simp [Value.oneCell']) (by omega) (by unfold maxLen; omega) (by omega) (by have := hsz; omega) _ rfl ?_
            intro gQ gcQ w'' hown2 hgrow hatg hltg
            refine ⟨_, rfl, hkeep 12 _ (Or.inr (by rw [HPV.out]; rfl)) hL, ?_⟩
            rw [Dag.on hL]
            simp only [getD_set_ne false (show 12 ≠ 11 by decide), getD_set_ne false (show 12 ≠ 16 by decide), Dag.turn_same, Dag.turn_other vals (i := 12) (j := 11) _ (by decide)]
            rw [l11, q16]
            exact hS.app hown2 hgrow hatg
          | 13, _ =>
            injection ho with ho
            subst ho
            have e25 : b.eval (.tmp 25) = .pointer (some ⟨Tb, 0, none⟩) := (hat.new 0 _ 25 (haft ⟨0, .data⟩ (by simp) rfl) rfl rfl).trans (hP 0 _ (by rw [HPV.out]; rfl) (haft ⟨0, .data⟩ (by simp) rfl))
            have q16 : Lf.getD 16 false = false := by
              cases h : Lf.getD 16 false with
              | false => rfl
              | true =>
                have h15 := hat.closed 16 _ h rfl ⟨15, .data⟩ (by simp) rfl
                have h14 := hat.closed 15 _ h15 rfl ⟨14, .data⟩ (by simp) rfl
                have h13 := hat.closed 14 _ h14 rfl ⟨13, .data⟩ (by simp) rfl
                rw [Dag.off hL] at h13; cases h13
            have hg := hS.g q16
            obtain ⟨c1, z1, hTx, hXx⟩ := HCx.out wx hg
            have y0 := hXx.cell (i := 0) rfl
            have y1 := hXx.cell (i := 1) rfl
            have y2 := hXx.cell (i := 2) rfl
            have hXl2 := hXx.lt
            refine Dag.yields (w' := wx) (.pointer (some ⟨Tb, 0, none⟩)) ?_ ⟨.pointer (some ⟨Tb, 0, none⟩), rfl, hkeep 13 _ (Or.inl (by rw [HPV.out]; rfl)) hL, ?_⟩
            · clear hP hS hat haft hkeep hL hg q16
              generalize b.eval = ρ at *
              go_simp
            · simp only [getD_set_ne false (show 13 ≠ 11 by decide), getD_set_ne false (show 13 ≠ 12 by decide), getD_set_ne false (show 13 ≠ 16 by decide), Dag.turn_other vals (i := 13) (j := 11) _ (by decide), Dag.turn_other vals (i := 13) (j := 12) _ (by decide)]
              exact hS
          | 14, _ =>
            injection ho with ho
            subst ho
            have e38 : b.eval (.tmp 38) = .pointer (some ⟨Tb, 0, none⟩) := (hat.new 13 _ 38 (haft ⟨13, .data⟩ (by simp) rfl) rfl rfl).trans (hP 13 _ (by rw [HPV.out]; rfl) (haft ⟨13, .data⟩ (by simp) rfl))
            have q16 : Lf.getD 16 false = false := by
              cases h : Lf.getD 16 false with
              | false => rfl
              | true =>
                have h15 := hat.closed 16 _ h rfl ⟨15, .data⟩ (by simp) rfl
                have h14 := hat.closed 15 _ h15 rfl ⟨14, .data⟩ (by simp) rfl
                rw [Dag.off hL] at h14; cases h14
            have hg := hS.g q16
            obtain ⟨c1, z1, hTx, hXx⟩ := HCx.out wx hg
            have y0 := hXx.cell (i := 0) rfl
            have y1 := hXx.cell (i := 1) rfl
            have y2 := hXx.cell (i := 2) rfl
            have hXl2 := hXx.lt
            refine Dag.yields (w' := wx) (.pointer (some ⟨Tb, 1, none⟩)) ?_ ⟨.pointer (some ⟨Tb, 1, none⟩), rfl, hkeep 14 _ (Or.inl (by rw [HPV.out]; rfl)) hL, ?_⟩
            · clear hP hS hat haft hkeep hL hg q16
              generalize b.eval = ρ at *
              go_simp
            · simp only [getD_set_ne false (show 14 ≠ 11 by decide), getD_set_ne false (show 14 ≠ 12 by decide), getD_set_ne false (show 14 ≠ 16 by decide), Dag.turn_other vals (i := 14) (j := 11) _ (by decide), Dag.turn_other vals (i := 14) (j := 12) _ (by decide)]
              exact hS
          | 15, _ =>
            injection ho with ho
            subst ho
            have e39 : b.eval (.tmp 39) = .pointer (some ⟨Tb, 1, none⟩) := (hat.new 14 _ 39 (haft ⟨14, .data⟩ (by simp) rfl) rfl rfl).trans (hP 14 _ (by rw [HPV.out]; rfl) (haft ⟨14, .data⟩ (by simp) rfl))
            have e27 : b.eval (.tmp 27) = .int .i64 (j : Int) := (hat.new 2 _ 27 (haft ⟨2, .data⟩ (by simp) rfl) rfl rfl).trans (hP 2 _ (by rw [HPV.out]; rfl) (haft ⟨2, .data⟩ (by simp) rfl))
            have q16 : Lf.getD 16 false = false := by
              cases h : Lf.getD 16 false with
              | false => rfl
              | true =>
                have h15 := hat.closed 16 _ h rfl ⟨15, .data⟩ (by simp) rfl
                rw [Dag.off hL] at h15; cases h15
            have hg := hS.g q16
            obtain ⟨c1, z1, hTx, hXx⟩ := HCx.out wx hg
            have y0 := hXx.cell (i := 0) rfl
            have y1 := hXx.cell (i := 1) rfl
            have y2 := hXx.cell (i := 2) rfl
            have hXl2 := hXx.lt
            refine Dag.yields (w' := wx) (.pointer (some ⟨Tb, 1 + j, none⟩)) ?_ ⟨.pointer (some ⟨Tb, 1 + j, none⟩), rfl, hkeep 15 _ (Or.inl (by rw [HPV.out]; rfl)) hL, ?_⟩
            · clear hP hS hat haft hkeep hL hg q16
              generalize b.eval = ρ at *
              go_simp
            · simp only [getD_set_ne false (show 15 ≠ 11 by decide), getD_set_ne false (show 15 ≠ 12 by decide), getD_set_ne false (show 15 ≠ 16 by decide), Dag.turn_other vals (i := 15) (j := 11) _ (by decide), Dag.turn_other vals (i := 15) (j := 12) _ (by decide)]
              exact hS
          | 16, _ =>
            injection ho with ho
            subst ho
            have e40 : b.eval (.tmp 40) = .pointer (some ⟨Tb, 1 + j, none⟩) := (hat.new 15 _ 40 (haft ⟨15, .data⟩ (by simp) rfl) rfl rfl).trans (hP 15 _ (by rw [HPV.out]; rfl) (haft ⟨15, .data⟩ (by simp) rfl))
            have e37 : b.eval (.tmp 37) = vals 12 := hat.new 12 _ 37 (haft ⟨12, .data⟩ (by simp) rfl) rfl rfl
            have l12 : Lf.getD 12 false = true := haft ⟨12, .data⟩ (by simp) rfl
            have lb : Lf.getD 11 false = true := hat.closed 12 _ l12 rfl ⟨11, .data⟩ (by simp) rfl
            rw [lb, l12, Dag.off hL] at hS
            have hg := hS.g rfl
            obtain ⟨c1, z1, hTx, hXx⟩ := HCx.out wx hg
            have y0 := hXx.cell (i := 0) rfl
            have y1 := hXx.cell (i := 1) rfl
            have y2 := hXx.cell (i := 2) rfl
            have hXl2 := hXx.lt
            obtain ⟨gQ, gcQ, hva, _⟩ := hS.c rfl rfl
            have hput := hS.put
            rw [hva] at hput
            have ev := e37.trans hva
            refine Dag.skips (w' := wx.setCell (⟨Tb, 1 + j, none⟩) (.slice (some ⟨gQ, 0, none⟩) (LL + 1) gcQ)) ?_ ⟨_, rfl, hkeep 16 _ (Or.inr (by rw [HPV.out]; rfl)) hL, ?_⟩
            · clear hP hS hat haft hkeep hL hg hput e37 hva
              generalize b.eval = ρ at *
              go_simp
            rw [Dag.on hL]
            simp only [getD_set_ne false (show 16 ≠ 11 by decide), getD_set_ne false (show 16 ≠ 12 by decide), Dag.turn_other vals (i := 16) (j := 11) _ (by decide), Dag.turn_other vals (i := 16) (j := 12) _ (by decide)]
            rw [lb, l12, hva]
            exact hput
          | i + 17, h => exact absurd h (by simp)
        · intro Lf vals wx hall hR
          obtain ⟨hP, hS⟩ := hR
          rw [hall 11 (by simp), hall 12 (by simp), hall 16 (by simp)] at hS
          obtain ⟨w1, hwx, gQ, gcQ, hva, hown, hatg, hgrow⟩ := hS.d rfl
          have hvb := hS.b rfl
          have u0 := hP 0 _ (by rw [HPV.out]; rfl) (hall 0 (by simp))
          have u1 := hP 1 _ (by rw [HPV.out]; rfl) (hall 1 (by simp))
          have u2 := hP 2 _ (by rw [HPV.out]; rfl) (hall 2 (by simp))
          have u3 := hP 3 _ (by rw [HPV.out]; rfl) (hall 3 (by simp))
          have u4 := hP 4 _ (by rw [HPV.out]; rfl) (hall 4 (by simp))
          have u5 := hP 5 _ (by rw [HPV.out]; rfl) (hall 5 (by simp))
          have u6 := hP 6 _ (by rw [HPV.out]; rfl) (hall 6 (by simp))
          have u7 := hP 7 _ (by rw [HPV.out]; rfl) (hall 7 (by simp))
          have u8 := hP 8 _ (by rw [HPV.out]; rfl) (hall 8 (by simp))
          have u9 := hP 9 _ (by rw [HPV.out]; rfl) (hall 9 (by simp))
          have u10 := hP 10 _ (by rw [HPV.out]; rfl) (hall 10 (by simp))
          have u13 := hP 13 _ (by rw [HPV.out]; rfl) (hall 13 (by simp))
          have u14 := hP 14 _ (by rw [HPV.out]; rfl) (hall 14 (by simp))
          have u15 := hP 15 _ (by rw [HPV.out]; rfl) (hall 15 (by simp))
          simp only [Dag.all, List.size_toArray, List.length_cons, List.length_nil, Nat.reduceAdd, List.getElem?_toArray, List.getElem?_cons_zero, List.getElem?_cons_succ, Option.bind_some]
          rw [u0, u1, u2, u3, u4, u5, u6, u7, u8, u9, u10, u13, u14, u15, hvb, hva]
          rw [hva] at hown hwx
          have hsr := HW2.out.pushLate (o := ⟨(j : Int), okd, oi⟩) hj12 hvj HLL.out hown hgrow hatg
          have HSR := box hsr
          rw [hwx]
          clear hP hS hall hown hgrow hatg hwx hvb hva hsr
          go_wp2_with fail
          go_meet
          exact ⟨_, HSR⟩
      case rest =>
        obtain ⟨u, HS5⟩ := hcut
        have HFin := box (HPost.out _ wc rfl ⟨_, _, .late rfl HD.out (by intro e; have h1 := HLL.out; rw [e] at h1; simp at h1; omega), ⟨_, _, _, _, HS5.out.1⟩, HOn2.out.trans HS5.out.2⟩)
        clear HCx HOut HS5
        go_wp2_with fail
        exact bodyPost_end (results_none rfl _ _ _) rfl HFin.out
    · have hL0 : LL = 0 := by omega
      subst hL0
      by_cases hk : 3 ≤ okd
      · have dk : decide ((3 : Int) ≤ okd) = true := decide_eq_true hk
        go_upto_region 5 with (fail)
        obtain ⟨ob, oe, hv12, _, _, _, _⟩ := OpsAt.own HW2.out.out
        obtain ⟨OL, HOL⟩ : ∃ x, Box (s.out.length = x) := ⟨_, ⟨rfl⟩⟩
        rw [HOL.out] at hv12 hsm1
        have hne : (Value.slice ob OL oe).ownBlock ≠ some X := by rw [← hv12]; exact HXr.out 12 (by omega)
        have HOut : Box (V2.ownsRow B 30 3 (.slice ob OL oe) OL (opVals s.out)) := ⟨by
          have h1 : V2.ownsRow B 30 3 (v 12) s.out.length (opVals s.out) := HW2.out.out
          rwa [hv12, HOL.out] at h1⟩
        have HCx : Box (∀ wx : World, V2.grownBy wx (Value.slice ob OL oe).ownBlock → wx.cell? ⟨Tb, 25, none⟩ = some (.slice ob OL oe) ∧ wx.frozen? ⟨Tb, 25, none⟩ = false ∧ Tb < wx.heap.size ∧ Blk wx X 30 [.int .i64 (j : Int), .int .i64 okd, .int .i64 oi]) := ⟨fun wx hg => HW2.out.rowFacts (by omega) hv12 HXb2.out hne hg (by have h1 := HW2.out.cOut; rwa [hv12] at h1)⟩
        have hB2 : B ≤ V2.heap.size := HW2.out.bw
        go_cut [] from 8 to 98 (fun wx => ∃ u, Box (TwoW wx B Tb { s with out := s.out ++ [⟨j, okd, oi⟩] } (upd v 12 u) la lc lo W0 ∧ Only B Tb v (upd v 12 u) V2 wx))
        case first => as_aux_lemma =>
          obtain ⟨PV, HPV⟩ : ∃ PV : Nat → Option Value, Box (PV = fun i => ([some (.pointer (some ⟨Tb, 0, none⟩)), some (.pointer (some ⟨Tb, 0, none⟩)), some (.pointer (some ⟨Tb, 0, none⟩)), some (.pointer (some ⟨Tb, 25, none⟩)), some (.slice ob OL oe), some (.agg #[.int .i64 (j : Int), .int .i64 okd, .int .i64 oi]), none, none, some (.pointer (some ⟨Tb, 0, none⟩)), some (.pointer (some ⟨Tb, 25, none⟩)), none] : List (Option Value)).getD i none) := ⟨_, ⟨rfl⟩⟩
          refine wp_region_dagv (by kernel_rfl) (fun Lf vals wx => (∀ i v, PV i = some v → Lf.getD i false = true → vals i = v) ∧ PutR V2 (.slice ob OL oe) B 30 3 OL (opVals s.out) ⟨Tb, 25, none⟩ [.int .i64 (j : Int), .int .i64 okd, .int .i64 oi] (Lf.getD 6 false) (Lf.getD 7 false) (Lf.getD 10 false) (vals 6) (vals 7) wx) (by kernel_rfl) ?_ ?_ ?_
          · refine ⟨fun i v _ h => absurd h (by simp [Array.getD_eq_getD_getElem?, Array.getElem?_replicate]; try (split <;> simp)), ?_⟩
            simp only [Array.getD_eq_getD_getElem?, Array.getElem?_replicate, List.size_toArray, List.length_cons, List.length_nil, Nat.reduceAdd, Nat.reduceLT, if_true, Option.getD_some]
            exact PutR.start
          · intro i hi o ho Lf vals b wx hat haft hL hR
            obtain ⟨hP, hS⟩ := hR
            have hco := hat.const
            have hkeep : ∀ i v, (PV i = some v ∨ PV i = none) → Lf.getD i true = false → (∀ j u, PV j = some u → (Lf.setIfInBounds i true).getD j false = true → Dag.turn vals i v j = u) := fun i v hv hL j u hu hj => by
              by_cases e : j = i
              · subst e; rw [Dag.turn_same]; rcases hv with hv | hv <;> rw [hv] at hu <;> simp at hu; exact hu
              · rw [Dag.turn_other _ _ e]; rw [getD_set_ne false (Ne.symm e)] at hj; exact hP j u hu hj
            have r0 : b.eval (.tmp 0) = .pointer (some ⟨Tb, 0, none⟩) := hat.old 0 (by
              intro j o' hj
              match j with
              | 0 | 1 | 2 | 3 | 4 | 5 | 6 | 7 | 8 | 9 | 10 => injection hj with hj; subst hj; simp
              | j + 11 => cases hj)
            have r3 : b.eval (.tmp 3) = .pointer (some ⟨X, 0, none⟩) := hat.old 3 (by
              intro j o' hj
              match j with
              | 0 | 1 | 2 | 3 | 4 | 5 | 6 | 7 | 8 | 9 | 10 => injection hj with hj; subst hj; simp
              | j + 11 => cases hj)
            match i, hi with
            | 0, _ =>
              injection ho with ho
              subst ho
              have q10 : Lf.getD 10 false = false := by
                cases h : Lf.getD 10 false with
                | false => rfl
                | true => have := hat.closed 10 _ h rfl ⟨0, .phase⟩ (by simp) rfl; rw [Dag.off hL] at this; cases this
              have hg := hS.g q10
              obtain ⟨c1, z1, hTx, hXx⟩ := HCx.out wx hg
              have y0 := hXx.cell (i := 0) rfl
              have y1 := hXx.cell (i := 1) rfl
              have y2 := hXx.cell (i := 2) rfl
              have hXl2 := hXx.lt
              refine Dag.yields (w' := wx) (.pointer (some ⟨Tb, 0, none⟩)) ?_ ⟨.pointer (some ⟨Tb, 0, none⟩), rfl, hkeep 0 _ (Or.inl (by rw [HPV.out]; rfl)) hL, ?_⟩
              · clear hP hS hat haft hkeep hL hg q10
                generalize b.eval = ρ at *
                go_simp
              · simp only [getD_set_ne false (show 0 ≠ 6 by decide), getD_set_ne false (show 0 ≠ 7 by decide), getD_set_ne false (show 0 ≠ 10 by decide), Dag.turn_other vals (i := 0) (j := 6) _ (by decide), Dag.turn_other vals (i := 0) (j := 7) _ (by decide)]
                exact hS
            | 1, _ =>
              injection ho with ho
              subst ho
              have q10 : Lf.getD 10 false = false := by
                cases h : Lf.getD 10 false with
                | false => rfl
                | true => have := hat.closed 10 _ h rfl ⟨1, .phase⟩ (by simp) rfl; rw [Dag.off hL] at this; cases this
              have hg := hS.g q10
              obtain ⟨c1, z1, hTx, hXx⟩ := HCx.out wx hg
              have y0 := hXx.cell (i := 0) rfl
              have y1 := hXx.cell (i := 1) rfl
              have y2 := hXx.cell (i := 2) rfl
              have hXl2 := hXx.lt
              refine Dag.yields (w' := wx) (.pointer (some ⟨Tb, 0, none⟩)) ?_ ⟨.pointer (some ⟨Tb, 0, none⟩), rfl, hkeep 1 _ (Or.inl (by rw [HPV.out]; rfl)) hL, ?_⟩
              · clear hP hS hat haft hkeep hL hg q10
                generalize b.eval = ρ at *
                go_simp
              · simp only [getD_set_ne false (show 1 ≠ 6 by decide), getD_set_ne false (show 1 ≠ 7 by decide), getD_set_ne false (show 1 ≠ 10 by decide), Dag.turn_other vals (i := 1) (j := 6) _ (by decide), Dag.turn_other vals (i := 1) (j := 7) _ (by decide)]
                exact hS
            | 2, _ =>
              injection ho with ho
              subst ho
              have e46 : b.eval (.tmp 46) = .pointer (some ⟨Tb, 0, none⟩) := (hat.new 1 _ 46 (haft ⟨1, .data⟩ (by simp) rfl) rfl rfl).trans (hP 1 _ (by rw [HPV.out]; rfl) (haft ⟨1, .data⟩ (by simp) rfl))
              have q10 : Lf.getD 10 false = false := by
                cases h : Lf.getD 10 false with
                | false => rfl
                | true => have := hat.closed 10 _ h rfl ⟨2, .phase⟩ (by simp) rfl; rw [Dag.off hL] at this; cases this
              have hg := hS.g q10
              obtain ⟨c1, z1, hTx, hXx⟩ := HCx.out wx hg
              have y0 := hXx.cell (i := 0) rfl
              have y1 := hXx.cell (i := 1) rfl
              have y2 := hXx.cell (i := 2) rfl
              have hXl2 := hXx.lt
              refine Dag.yields (w' := wx) (.pointer (some ⟨Tb, 0, none⟩)) ?_ ⟨.pointer (some ⟨Tb, 0, none⟩), rfl, hkeep 2 _ (Or.inl (by rw [HPV.out]; rfl)) hL, ?_⟩
              · clear hP hS hat haft hkeep hL hg q10
                generalize b.eval = ρ at *
                go_simp
              · simp only [getD_set_ne false (show 2 ≠ 6 by decide), getD_set_ne false (show 2 ≠ 7 by decide), getD_set_ne false (show 2 ≠ 10 by decide), Dag.turn_other vals (i := 2) (j := 6) _ (by decide), Dag.turn_other vals (i := 2) (j := 7) _ (by decide)]
                exact hS
            | 3, _ =>
              injection ho with ho
              subst ho
              have e47 : b.eval (.tmp 47) = .pointer (some ⟨Tb, 0, none⟩) := (hat.new 2 _ 47 (haft ⟨2, .data⟩ (by simp) rfl) rfl rfl).trans (hP 2 _ (by rw [HPV.out]; rfl) (haft ⟨2, .data⟩ (by simp) rfl))
              have q10 : Lf.getD 10 false = false := by
                cases h : Lf.getD 10 false with
                | false => rfl
                | true => have := hat.closed 10 _ h rfl ⟨3, .phase⟩ (by simp) rfl; rw [Dag.off hL] at this; cases this
              have hg := hS.g q10
              obtain ⟨c1, z1, hTx, hXx⟩ := HCx.out wx hg
              have y0 := hXx.cell (i := 0) rfl
              have y1 := hXx.cell (i := 1) rfl
              have y2 := hXx.cell (i := 2) rfl
              have hXl2 := hXx.lt
              refine Dag.yields (w' := wx) (.pointer (some ⟨Tb, 25, none⟩)) ?_ ⟨.pointer (some ⟨Tb, 25, none⟩), rfl, hkeep 3 _ (Or.inl (by rw [HPV.out]; rfl)) hL, ?_⟩
              · clear hP hS hat haft hkeep hL hg q10
                generalize b.eval = ρ at *
                go_simp
              · simp only [getD_set_ne false (show 3 ≠ 6 by decide), getD_set_ne false (show 3 ≠ 7 by decide), getD_set_ne false (show 3 ≠ 10 by decide), Dag.turn_other vals (i := 3) (j := 6) _ (by decide), Dag.turn_other vals (i := 3) (j := 7) _ (by decide)]
                exact hS
            | 4, _ =>
              injection ho with ho
              subst ho
              have e48 : b.eval (.tmp 48) = .pointer (some ⟨Tb, 25, none⟩) := (hat.new 3 _ 48 (haft ⟨3, .data⟩ (by simp) rfl) rfl rfl).trans (hP 3 _ (by rw [HPV.out]; rfl) (haft ⟨3, .data⟩ (by simp) rfl))
              have q10 : Lf.getD 10 false = false := by
                cases h : Lf.getD 10 false with
                | false => rfl
                | true => have := hat.closed 10 _ h rfl ⟨4, .phase⟩ (by simp) rfl; rw [Dag.off hL] at this; cases this
              have hg := hS.g q10
              obtain ⟨c1, z1, hTx, hXx⟩ := HCx.out wx hg
              have y0 := hXx.cell (i := 0) rfl
              have y1 := hXx.cell (i := 1) rfl
              have y2 := hXx.cell (i := 2) rfl
              have hXl2 := hXx.lt
              refine Dag.yields (w' := wx) (.slice ob OL oe) ?_ ⟨.slice ob OL oe, rfl, hkeep 4 _ (Or.inl (by rw [HPV.out]; rfl)) hL, ?_⟩
              · clear hP hS hat haft hkeep hL hg q10
                generalize b.eval = ρ at *
                go_simp
              · simp only [getD_set_ne false (show 4 ≠ 6 by decide), getD_set_ne false (show 4 ≠ 7 by decide), getD_set_ne false (show 4 ≠ 10 by decide), Dag.turn_other vals (i := 4) (j := 6) _ (by decide), Dag.turn_other vals (i := 4) (j := 7) _ (by decide)]
                exact hS
            | 5, _ =>
              injection ho with ho
              subst ho
              have q10 : Lf.getD 10 false = false := by
                cases h : Lf.getD 10 false with
                | false => rfl
                | true => have := hat.closed 10 _ h rfl ⟨5, .phase⟩ (by simp) rfl; rw [Dag.off hL] at this; cases this
              have hg := hS.g q10
              obtain ⟨c1, z1, hTx, hXx⟩ := HCx.out wx hg
              have y0 := hXx.cell (i := 0) rfl
              have y1 := hXx.cell (i := 1) rfl
              have y2 := hXx.cell (i := 2) rfl
              have hXl2 := hXx.lt
              refine Dag.yields (w' := wx) (.agg #[.int .i64 (j : Int), .int .i64 okd, .int .i64 oi]) ?_ ⟨.agg #[.int .i64 (j : Int), .int .i64 okd, .int .i64 oi], rfl, hkeep 5 _ (Or.inl (by rw [HPV.out]; rfl)) hL, ?_⟩
              · clear hP hS hat haft hkeep hL hg q10
                generalize b.eval = ρ at *
                go_simp
              · simp only [getD_set_ne false (show 5 ≠ 6 by decide), getD_set_ne false (show 5 ≠ 7 by decide), getD_set_ne false (show 5 ≠ 10 by decide), Dag.turn_other vals (i := 5) (j := 6) _ (by decide), Dag.turn_other vals (i := 5) (j := 7) _ (by decide)]
                exact hS
            | 6, _ =>
              injection ho with ho
              subst ho
              have e50 : b.eval (.tmp 50) = .agg #[.int .i64 (j : Int), .int .i64 okd, .int .i64 oi] := (hat.new 5 _ 50 (haft ⟨5, .data⟩ (by simp) rfl) rfl rfl).trans (hP 5 _ (by rw [HPV.out]; rfl) (haft ⟨5, .data⟩ (by simp) rfl))
              have q10 : Lf.getD 10 false = false := by
                cases h : Lf.getD 10 false with
                | false => rfl
                | true => have := hat.closed 10 _ h rfl ⟨6, .phase⟩ (by simp) rfl; rw [Dag.off hL] at this; cases this
              have hg := hS.g q10
              obtain ⟨c1, z1, hTx, hXx⟩ := HCx.out wx hg
              have y0 := hXx.cell (i := 0) rfl
              have y1 := hXx.cell (i := 1) rfl
              have y2 := hXx.cell (i := 2) rfl
              have hXl2 := hXx.lt
              have q7 : Lf.getD 7 false = false := by
                cases h : Lf.getD 7 false with
                | false => rfl
                | true => have := hat.closed 7 _ h rfl ⟨6, .data⟩ (by simp) rfl; rw [Dag.off hL] at this; cases this
              rw [q7, q10, Dag.off hL] at hS
              refine Dag.yields (w' := wx.alloc (.cells #[.int .i64 (j : Int), .int .i64 okd, .int .i64 oi] 30)) (.slice (some ⟨wx.heap.size, 0, none⟩) 1 1) ?_ ⟨_, rfl, hkeep 6 _ (Or.inr (by rw [HPV.out]; rfl)) hL, ?_⟩
              · clear hP hS hat haft hkeep hL hg
                generalize b.eval = ρ at *
                go_simp
              rw [Dag.on hL]
              simp only [getD_set_ne false (show 6 ≠ 7 by decide), getD_set_ne false (show 6 ≠ 10 by decide), Dag.turn_same, Dag.turn_other vals (i := 6) (j := 7) _ (by decide)]
              rw [q7, q10]
              exact hS.lay
            | 7, _ =>
              injection ho with ho
              subst ho
              have e49 : b.eval (.tmp 49) = .slice ob OL oe := (hat.new 4 _ 49 (haft ⟨4, .data⟩ (by simp) rfl) rfl rfl).trans (hP 4 _ (by rw [HPV.out]; rfl) (haft ⟨4, .data⟩ (by simp) rfl))
              have e51 : b.eval (.tmp 51) = vals 6 := hat.new 6 _ 51 (haft ⟨6, .data⟩ (by simp) rfl) rfl rfl
              have l6 : Lf.getD 6 false = true := haft ⟨6, .data⟩ (by simp) rfl
              have q10 : Lf.getD 10 false = false := by
                cases h : Lf.getD 10 false with
                | false => rfl
                | true => have := hat.closed 10 _ h rfl ⟨7, .phase⟩ (by simp) rfl; rw [Dag.off hL] at this; cases this
              have hg := hS.g q10
              obtain ⟨c1, z1, hTx, hXx⟩ := HCx.out wx hg
              have y0 := hXx.cell (i := 0) rfl
              have y1 := hXx.cell (i := 1) rfl
              have y2 := hXx.cell (i := 2) rfl
              have hXl2 := hXx.lt
              rw [l6, q10, Dag.off hL] at hS
              have hbl := hS.a rfl rfl
              have hown := ownsRow_below (HOut.out) hbl
              have hvb := hS.b rfl
              have hkb := hS.k rfl rfl rfl
              have hsz := hbl.size
              refine wp_append_lies wx _ _ 22 rfl (B) 30 i0 _ 3 24 Tryz.underlying22 hi0 hz0 hz1 hz2 rfl (by decide) (.slice ob OL oe) (OL) (opVals s.out) e49 hown ⟨_, 0, none⟩ 1 1 [.int .i64 (j : Int), .int .i64 okd, .int .i64 oi] (e51.trans hvb) rfl (World.news_of_block (cs := #[.int .i64 (j : Int), .int .i64 okd, .int .i64 oi]) (t := 30) (fr := (0, 0)) hkb) (by simp [Value.oneCell']) (by omega) (by unfold maxLen; omega) (by omega) (by have := hsz; omega) _ rfl ?_
              intro gQ gcQ w'' hown2 hgrow hatg hltg
              refine ⟨_, rfl, hkeep 7 _ (Or.inr (by rw [HPV.out]; rfl)) hL, ?_⟩
              rw [Dag.on hL]
              simp only [getD_set_ne false (show 7 ≠ 6 by decide), getD_set_ne false (show 7 ≠ 10 by decide), Dag.turn_same, Dag.turn_other vals (i := 7) (j := 6) _ (by decide)]
              rw [l6, q10]
              exact hS.app hown2 hgrow hatg
            | 8, _ =>
              injection ho with ho
              subst ho
              have e45 : b.eval (.tmp 45) = .pointer (some ⟨Tb, 0, none⟩) := (hat.new 0 _ 45 (haft ⟨0, .data⟩ (by simp) rfl) rfl rfl).trans (hP 0 _ (by rw [HPV.out]; rfl) (haft ⟨0, .data⟩ (by simp) rfl))
              have q10 : Lf.getD 10 false = false := by
                cases h : Lf.getD 10 false with
                | false => rfl
                | true =>
                  have h9 := hat.closed 10 _ h rfl ⟨9, .data⟩ (by simp) rfl
                  have h8 := hat.closed 9 _ h9 rfl ⟨8, .data⟩ (by simp) rfl
                  rw [Dag.off hL] at h8; cases h8
              have hg := hS.g q10
              obtain ⟨c1, z1, hTx, hXx⟩ := HCx.out wx hg
              have y0 := hXx.cell (i := 0) rfl
              have y1 := hXx.cell (i := 1) rfl
              have y2 := hXx.cell (i := 2) rfl
              have hXl2 := hXx.lt
              refine Dag.yields (w' := wx) (.pointer (some ⟨Tb, 0, none⟩)) ?_ ⟨.pointer (some ⟨Tb, 0, none⟩), rfl, hkeep 8 _ (Or.inl (by rw [HPV.out]; rfl)) hL, ?_⟩
              · clear hP hS hat haft hkeep hL hg q10
                generalize b.eval = ρ at *
                go_simp
              · simp only [getD_set_ne false (show 8 ≠ 6 by decide), getD_set_ne false (show 8 ≠ 7 by decide), getD_set_ne false (show 8 ≠ 10 by decide), Dag.turn_other vals (i := 8) (j := 6) _ (by decide), Dag.turn_other vals (i := 8) (j := 7) _ (by decide)]
                exact hS
            | 9, _ =>
              injection ho with ho
              subst ho
              have e53 : b.eval (.tmp 53) = .pointer (some ⟨Tb, 0, none⟩) := (hat.new 8 _ 53 (haft ⟨8, .data⟩ (by simp) rfl) rfl rfl).trans (hP 8 _ (by rw [HPV.out]; rfl) (haft ⟨8, .data⟩ (by simp) rfl))
              have q10 : Lf.getD 10 false = false := by
                cases h : Lf.getD 10 false with
                | false => rfl
                | true =>
                  have h9 := hat.closed 10 _ h rfl ⟨9, .data⟩ (by simp) rfl
                  rw [Dag.off hL] at h9; cases h9
              have hg := hS.g q10
              obtain ⟨c1, z1, hTx, hXx⟩ := HCx.out wx hg
              have y0 := hXx.cell (i := 0) rfl
              have y1 := hXx.cell (i := 1) rfl
              have y2 := hXx.cell (i := 2) rfl
              have hXl2 := hXx.lt
              refine Dag.yields (w' := wx) (.pointer (some ⟨Tb, 25, none⟩)) ?_ ⟨.pointer (some ⟨Tb, 25, none⟩), rfl, hkeep 9 _ (Or.inl (by rw [HPV.out]; rfl)) hL, ?_⟩
              · clear hP hS hat haft hkeep hL hg q10
                generalize b.eval = ρ at *
                go_simp
              · simp only [getD_set_ne false (show 9 ≠ 6 by decide), getD_set_ne false (show 9 ≠ 7 by decide), getD_set_ne false (show 9 ≠ 10 by decide), Dag.turn_other vals (i := 9) (j := 6) _ (by decide), Dag.turn_other vals (i := 9) (j := 7) _ (by decide)]
                exact hS
            | 10, _ =>
              injection ho with ho
              subst ho
              have e54 : b.eval (.tmp 54) = .pointer (some ⟨Tb, 25, none⟩) := (hat.new 9 _ 54 (haft ⟨9, .data⟩ (by simp) rfl) rfl rfl).trans (hP 9 _ (by rw [HPV.out]; rfl) (haft ⟨9, .data⟩ (by simp) rfl))
              have e52 : b.eval (.tmp 52) = vals 7 := hat.new 7 _ 52 (haft ⟨7, .data⟩ (by simp) rfl) rfl rfl
              have l7 : Lf.getD 7 false = true := haft ⟨7, .data⟩ (by simp) rfl
              have lb : Lf.getD 6 false = true := hat.closed 7 _ l7 rfl ⟨6, .data⟩ (by simp) rfl
              rw [lb, l7, Dag.off hL] at hS
              have hg := hS.g rfl
              obtain ⟨c1, z1, hTx, hXx⟩ := HCx.out wx hg
              have y0 := hXx.cell (i := 0) rfl
              have y1 := hXx.cell (i := 1) rfl
              have y2 := hXx.cell (i := 2) rfl
              have hXl2 := hXx.lt
              obtain ⟨gQ, gcQ, hva, _⟩ := hS.c rfl rfl
              have hput := hS.put
              rw [hva] at hput
              have ev := e52.trans hva
              refine Dag.skips (w' := wx.setCell (⟨Tb, 25, none⟩) (.slice (some ⟨gQ, 0, none⟩) (OL + 1) gcQ)) ?_ ⟨_, rfl, hkeep 10 _ (Or.inr (by rw [HPV.out]; rfl)) hL, ?_⟩
              · clear hP hS hat haft hkeep hL hg hput e52 hva
                generalize b.eval = ρ at *
                go_simp
              rw [Dag.on hL]
              simp only [getD_set_ne false (show 10 ≠ 6 by decide), getD_set_ne false (show 10 ≠ 7 by decide), Dag.turn_other vals (i := 10) (j := 6) _ (by decide), Dag.turn_other vals (i := 10) (j := 7) _ (by decide)]
              rw [lb, l7, hva]
              exact hput
            | i + 11, h => exact absurd h (by simp)
          · intro Lf vals wx hall hR
            obtain ⟨hP, hS⟩ := hR
            rw [hall 6 (by simp), hall 7 (by simp), hall 10 (by simp)] at hS
            obtain ⟨w1, hwx, gQ, gcQ, hva, hown, hatg, hgrow⟩ := hS.d rfl
            have hvb := hS.b rfl
            have u0 := hP 0 _ (by rw [HPV.out]; rfl) (hall 0 (by simp))
            have u1 := hP 1 _ (by rw [HPV.out]; rfl) (hall 1 (by simp))
            have u2 := hP 2 _ (by rw [HPV.out]; rfl) (hall 2 (by simp))
            have u3 := hP 3 _ (by rw [HPV.out]; rfl) (hall 3 (by simp))
            have u4 := hP 4 _ (by rw [HPV.out]; rfl) (hall 4 (by simp))
            have u5 := hP 5 _ (by rw [HPV.out]; rfl) (hall 5 (by simp))
            have u8 := hP 8 _ (by rw [HPV.out]; rfl) (hall 8 (by simp))
            have u9 := hP 9 _ (by rw [HPV.out]; rfl) (hall 9 (by simp))
            simp only [Dag.all, List.size_toArray, List.length_cons, List.length_nil, Nat.reduceAdd, List.getElem?_toArray, List.getElem?_cons_zero, List.getElem?_cons_succ, Option.bind_some]
            rw [u0, u1, u2, u3, u4, u5, u8, u9, hvb, hva]
            rw [hva] at hown hwx
            have hsr := HW2.out.pushOut (o := ⟨(j : Int), okd, oi⟩) hv12 HOL.out hown hgrow hatg
            have HSR := box hsr
            rw [hwx]
            clear hP hS hall hown hgrow hatg hwx hvb hva hsr
            go_wp2_with fail
            go_meet
            exact ⟨_, HSR⟩
        case rest =>
          obtain ⟨u, HS5⟩ := hcut
          have hl0 : s.late j = [] := List.eq_nil_of_length_eq_zero HLL.out
          have hkX := (HS5.out.2.keeps hXl hXT HXr.out).1
          have y0 := (World.cell?_of_block (a := ⟨X, 0, none⟩) hkX).trans x0
          have HCall := box (HDr.out B Tb wc { s with out := s.out ++ [⟨j, okd, oi⟩] } _ j G p h ⟨_, _, _, _, HS5.out.1⟩ HI.out.good hj12 (HI.out.ends rfl HD.out hl0 hk) HTo.out (by show lates s ≤ m; omega))
          have HFin : Box (∀ s3 v3 w6, Drops { s with out := s.out ++ [⟨j, okd, oi⟩] } j s3 → At w6 B Tb s3 v3 → Only B Tb (upd v 12 u) v3 wc w6 → PP (.returned (.tuple #[])) w6) := ⟨fun s3 v3 w6 k1 k2 k3 => HPost.out _ w6 rfl ⟨s3, v3, .ends rfl HD.out hl0 hk k1, k2, (HOn2.out.trans HS5.out.2).trans k3⟩⟩
          clear HCx HOut HS5 hkX x0 x1 x2
          go_wp2_with fail
          refine HCall.out.mono ?_
          rintro e w6 ⟨rfl, s3, v3, k1, k2, k3⟩
          have HF2 := box (HFin.out s3 v3 w6 k1 k2 k3)
          go_wp2_with fail
          exact bodyPost_end (results_none rfl _ _ _) rfl HF2.out
      · have dk : decide ((3 : Int) ≤ okd) = false := decide_eq_false hk
        go_upto_region 7 with (fail)
        have hl0 : s.late j = [] := List.eq_nil_of_length_eq_zero HLL.out
        have hk3 : okd < 3 := by omega
        have HAskE : Box (LkM.askE s.locks (j : Int) oi (TwoM.mode ⟨j, okd, oi⟩) = 0) := ⟨by
          have hbz := RunM.bad_zero HBad.out
          dsimp only at hbz
          unfold LkM.askE
          rw [if_neg (by rw [LkM.check_iff.2 HI.out.good]; simp), if_neg (by rcases TwoM.mode_two ⟨j, okd, oi⟩ with e | e <;> rw [e] <;> omega), if_neg (by rw [not_waiting HI.out hl0]; decide)]⟩
        obtain ⟨TL, HTL⟩ : ∃ x, Box (s.locks.length = x) := ⟨_, ⟨rfl⟩⟩
        obtain ⟨t2, Ht2⟩ : ∃ x, Box ((LkM.askIn oi ⟨j, TwoM.mode ⟨j, okd, oi⟩⟩ s.locks).1 = x) := ⟨_, ⟨rfl⟩⟩
        obtain ⟨bb, Hbb⟩ : ∃ x, Box ((LkM.askIn oi ⟨j, TwoM.mode ⟨j, okd, oi⟩⟩ s.locks).2 = x) := ⟨_, ⟨rfl⟩⟩
        obtain ⟨T2, HT2⟩ : ∃ x, Box (t2.length = x) := ⟨_, ⟨rfl⟩⟩
        have HAs : Box (∀ W, Below V2.heap.size V2 W → Calls Tryz.prog 46 #[.slice la TL lc, .int .i64 (j : Int), .int .i64 oi, .int .i64 (TwoM.mode ⟨j, okd, oi⟩)] W fun e w' => Below W.heap.size W w' ∧ ∃ ta tc, e = .returned (.tuple #[.slice ta T2 tc, .bool bb, .int .i64 0]) ∧ LisIn w' W.heap.size ta t2) := ⟨fun W hb => by
          have h1 := ask_any s.locks la lc lo (j : Int) oi (TwoM.mode ⟨j, okd, oi⟩) W (HW2.out.after hb).locks HI.out.good.small
          rw [HTL.out] at h1
          refine h1.mono ?_
          rintro e w' ⟨h2, ⟨h3, _⟩ | ⟨_, ta, tc, h4, h5⟩⟩
          · exact absurd HAskE.out h3
          · rw [Ht2.out, HT2.out, Hbb.out] at h4
            rw [Ht2.out] at h5
            exact ⟨h2, ta, tc, h4, h5⟩⟩
        obtain ⟨md, Hmd⟩ : ∃ x, Box (TwoM.mode ⟨(j : Int), okd, oi⟩ = x) := ⟨_, ⟨rfl⟩⟩
        have HMd := box (fun W => mode_any (j : Int) okd oi W)
        rw [Hmd.out] at HAs HMd
        have c0 : V2.cell? ⟨Tb, 0, none⟩ = some (.slice la TL lc) := by have := HW2.out.cLocks; rwa [HTL.out] at this
        have HSp : Box (∀ W, Below V2.heap.size V2 W → W.cell? ⟨Tb, 0, none⟩ = some (.slice la TL lc) ∧ W.cell? ⟨X, 0, none⟩ = some (.int .i64 (j : Int)) ∧ W.cell? ⟨X, 1, none⟩ = some (.int .i64 okd) ∧ W.cell? ⟨X, 2, none⟩ = some (.int .i64 oi)) := ⟨fun W hb => ⟨(World.cell?_of_block (a := ⟨Tb, 0, none⟩) (hb.block Tb hTl)).trans c0, (World.cell?_of_block (a := ⟨X, 0, none⟩) (hb.block X hXl)).trans x0, (World.cell?_of_block (a := ⟨X, 1, none⟩) (hb.block X hXl)).trans x1, (World.cell?_of_block (a := ⟨X, 2, none⟩) (hb.block X hXl)).trans x2⟩⟩
        go_region_held3 (fun w' => w'.cell? ⟨Tb, 0, none⟩ = some (.slice la TL lc) ∧ w'.cell? ⟨X, 0, none⟩ = some (.int .i64 (j : Int)) ∧ w'.cell? ⟨X, 1, none⟩ = some (.int .i64 okd) ∧ w'.cell? ⟨X, 2, none⟩ = some (.int .i64 oi)) (first | exact ⟨c0, x0, x1, x2⟩ | assumption)
          (first
            | (go_at_call 47; refine (HMd.out _).mono ?_; rintro e w3 ⟨rfl, hb3⟩; have HB3 := box (below_tr (Below.refl _ V2).drew hb3); have hh3 := HSp.out w3 HB3.out; clear hb3)
            | (go_at_call 46; refine (HAs.out _ HB3.out).mono ?_; rintro e w4 ⟨hb4, ta, tc, rfl, hl4⟩; have HA4 := box (And.intro hb4 hl4); have hh4 := HSp.out w4 (below_tr HB3.out hb4); clear hb4 hl4)
            | fail)
        have HS8 := box ((HW2.out.after HB3.out).setLocks (lc' := tc) HA4.out.1 HA4.out.2)
        rw [HT2.out] at HS8
        have HXb8 := box (((HXb2.out.after HB3.out).after HA4.out.1).other (p := ⟨Tb, 0, none⟩) hXT (.slice ta T2 tc))
        have HO8 : Box (Only B Tb v v w (w4.setCell ⟨Tb, 0, none⟩ (.slice ta T2 tc))) := ⟨(HOn2.out.after HB3.out HW2.out.bw).trans HS8.out.2⟩
        have z8 := ((HW2.out.after HB3.out).after HA4.out.1).blk.frozen 0
        have hT8 := ((HW2.out.after HB3.out).after HA4.out.1).tlt
        have c8 := hh4.1
        go_upto_region 9 with (fail)
        obtain ⟨V8, HV8⟩ : ∃ x, Box (w4.setCell ⟨Tb, 0, none⟩ (.slice ta T2 tc) = x) := ⟨_, ⟨rfl⟩⟩
        rw [HV8.out] at HS8 HXb8 HO8 ⊢
        have HW8 := box HS8.out.1
        clear HS8 HW2 HXb2 HOn2 hh3 hh4 c8 z8 hT8 c0 x0 x1 x2 hXl hTl HSp HAs HMd HA4
        have x0 := HXb8.out.cell (i := 0) rfl
        have x1 := HXb8.out.cell (i := 1) rfl
        have x2 := HXb8.out.cell (i := 2) rfl
        have hXl := HXb8.out.lt
        have hTl := HW8.out.tlt
        cases bb with
        | true =>
          go_upto_region 10 with (fail)
          obtain ⟨ob, oe, hv12, _, _, _, _⟩ := OpsAt.own HW8.out.out
          obtain ⟨OL, HOL⟩ : ∃ x, Box (s.out.length = x) := ⟨_, ⟨rfl⟩⟩
          replace hv12 : v 12 = .slice ob s.out.length oe := hv12
          rw [HOL.out] at hv12 hsm1
          have hne : (Value.slice ob OL oe).ownBlock ≠ some X := by rw [← hv12]; exact HXr.out 12 (by omega)
          have HOut : Box (V8.ownsRow B 30 3 (.slice ob OL oe) OL (opVals s.out)) := ⟨by
            have h1 : V8.ownsRow B 30 3 (v 12) s.out.length (opVals s.out) := HW8.out.out
            rwa [hv12, HOL.out] at h1⟩
          have HCx : Box (∀ wx : World, V8.grownBy wx (Value.slice ob OL oe).ownBlock → wx.cell? ⟨Tb, 25, none⟩ = some (.slice ob OL oe) ∧ wx.frozen? ⟨Tb, 25, none⟩ = false ∧ Tb < wx.heap.size ∧ Blk wx X 30 [.int .i64 (j : Int), .int .i64 okd, .int .i64 oi]) := ⟨fun wx hg => HW8.out.rowFacts (by omega) hv12 HXb8.out hne hg (by have h1 := HW8.out.cOut; rwa [hv12] at h1)⟩
          have hB2 : B ≤ V8.heap.size := HW8.out.bw
          go_cut [] from 8 to 98 (fun wx => ∃ u, Box (TwoW wx B Tb { s with locks := t2, out := s.out ++ [⟨j, okd, oi⟩] } (upd v 12 u) ta tc w3.heap.size w4 ∧ Only B Tb v (upd v 12 u) V8 wx))
          case first => as_aux_lemma =>
            obtain ⟨PV, HPV⟩ : ∃ PV : Nat → Option Value, Box (PV = fun i => ([some (.pointer (some ⟨Tb, 0, none⟩)), some (.pointer (some ⟨Tb, 0, none⟩)), some (.pointer (some ⟨Tb, 0, none⟩)), some (.pointer (some ⟨Tb, 25, none⟩)), some (.slice ob OL oe), some (.agg #[.int .i64 (j : Int), .int .i64 okd, .int .i64 oi]), none, none, some (.pointer (some ⟨Tb, 0, none⟩)), some (.pointer (some ⟨Tb, 25, none⟩)), none] : List (Option Value)).getD i none) := ⟨_, ⟨rfl⟩⟩
            refine wp_region_dagv (by kernel_rfl) (fun Lf vals wx => (∀ i v, PV i = some v → Lf.getD i false = true → vals i = v) ∧ PutR V8 (.slice ob OL oe) B 30 3 OL (opVals s.out) ⟨Tb, 25, none⟩ [.int .i64 (j : Int), .int .i64 okd, .int .i64 oi] (Lf.getD 6 false) (Lf.getD 7 false) (Lf.getD 10 false) (vals 6) (vals 7) wx) (by kernel_rfl) ?_ ?_ ?_
            · refine ⟨fun i v _ h => absurd h (by simp [Array.getD_eq_getD_getElem?, Array.getElem?_replicate]; try (split <;> simp)), ?_⟩
              simp only [Array.getD_eq_getD_getElem?, Array.getElem?_replicate, List.size_toArray, List.length_cons, List.length_nil, Nat.reduceAdd, Nat.reduceLT, if_true, Option.getD_some]
              exact PutR.start
            · intro i hi o ho Lf vals b wx hat haft hL hR
              obtain ⟨hP, hS⟩ := hR
              have hco := hat.const
              have hkeep : ∀ i v, (PV i = some v ∨ PV i = none) → Lf.getD i true = false → (∀ j u, PV j = some u → (Lf.setIfInBounds i true).getD j false = true → Dag.turn vals i v j = u) := fun i v hv hL j u hu hj => by
                by_cases e : j = i
                · subst e; rw [Dag.turn_same]; rcases hv with hv | hv <;> rw [hv] at hu <;> simp at hu; exact hu
                · rw [Dag.turn_other _ _ e]; rw [getD_set_ne false (Ne.symm e)] at hj; exact hP j u hu hj
              have r0 : b.eval (.tmp 0) = .pointer (some ⟨Tb, 0, none⟩) := hat.old 0 (by
                intro j o' hj
                match j with
                | 0 | 1 | 2 | 3 | 4 | 5 | 6 | 7 | 8 | 9 | 10 => injection hj with hj; subst hj; simp
                | j + 11 => cases hj)
              have r3 : b.eval (.tmp 3) = .pointer (some ⟨X, 0, none⟩) := hat.old 3 (by
                intro j o' hj
                match j with
                | 0 | 1 | 2 | 3 | 4 | 5 | 6 | 7 | 8 | 9 | 10 => injection hj with hj; subst hj; simp
                | j + 11 => cases hj)
              match i, hi with
              | 0, _ =>
                injection ho with ho
                subst ho
                have q10 : Lf.getD 10 false = false := by
                  cases h : Lf.getD 10 false with
                  | false => rfl
                  | true => have := hat.closed 10 _ h rfl ⟨0, .phase⟩ (by simp) rfl; rw [Dag.off hL] at this; cases this
                have hg := hS.g q10
                obtain ⟨c1, z1, hTx, hXx⟩ := HCx.out wx hg
                have y0 := hXx.cell (i := 0) rfl
                have y1 := hXx.cell (i := 1) rfl
                have y2 := hXx.cell (i := 2) rfl
                have hXl2 := hXx.lt
                refine Dag.yields (w' := wx) (.pointer (some ⟨Tb, 0, none⟩)) ?_ ⟨.pointer (some ⟨Tb, 0, none⟩), rfl, hkeep 0 _ (Or.inl (by rw [HPV.out]; rfl)) hL, ?_⟩
                · clear hP hS hat haft hkeep hL hg q10
                  generalize b.eval = ρ at *
                  go_simp
                · simp only [getD_set_ne false (show 0 ≠ 6 by decide), getD_set_ne false (show 0 ≠ 7 by decide), getD_set_ne false (show 0 ≠ 10 by decide), Dag.turn_other vals (i := 0) (j := 6) _ (by decide), Dag.turn_other vals (i := 0) (j := 7) _ (by decide)]
                  exact hS
              | 1, _ =>
                injection ho with ho
                subst ho
                have q10 : Lf.getD 10 false = false := by
                  cases h : Lf.getD 10 false with
                  | false => rfl
                  | true => have := hat.closed 10 _ h rfl ⟨1, .phase⟩ (by simp) rfl; rw [Dag.off hL] at this; cases this
                have hg := hS.g q10
                obtain ⟨c1, z1, hTx, hXx⟩ := HCx.out wx hg
                have y0 := hXx.cell (i := 0) rfl
                have y1 := hXx.cell (i := 1) rfl
                have y2 := hXx.cell (i := 2) rfl
                have hXl2 := hXx.lt
                refine Dag.yields (w' := wx) (.pointer (some ⟨Tb, 0, none⟩)) ?_ ⟨.pointer (some ⟨Tb, 0, none⟩), rfl, hkeep 1 _ (Or.inl (by rw [HPV.out]; rfl)) hL, ?_⟩
                · clear hP hS hat haft hkeep hL hg q10
                  generalize b.eval = ρ at *
                  go_simp
                · simp only [getD_set_ne false (show 1 ≠ 6 by decide), getD_set_ne false (show 1 ≠ 7 by decide), getD_set_ne false (show 1 ≠ 10 by decide), Dag.turn_other vals (i := 1) (j := 6) _ (by decide), Dag.turn_other vals (i := 1) (j := 7) _ (by decide)]
                  exact hS
              | 2, _ =>
                injection ho with ho
                subst ho
                have e80 : b.eval (.tmp 80) = .pointer (some ⟨Tb, 0, none⟩) := (hat.new 1 _ 80 (haft ⟨1, .data⟩ (by simp) rfl) rfl rfl).trans (hP 1 _ (by rw [HPV.out]; rfl) (haft ⟨1, .data⟩ (by simp) rfl))
                have q10 : Lf.getD 10 false = false := by
                  cases h : Lf.getD 10 false with
                  | false => rfl
                  | true => have := hat.closed 10 _ h rfl ⟨2, .phase⟩ (by simp) rfl; rw [Dag.off hL] at this; cases this
                have hg := hS.g q10
                obtain ⟨c1, z1, hTx, hXx⟩ := HCx.out wx hg
                have y0 := hXx.cell (i := 0) rfl
                have y1 := hXx.cell (i := 1) rfl
                have y2 := hXx.cell (i := 2) rfl
                have hXl2 := hXx.lt
                refine Dag.yields (w' := wx) (.pointer (some ⟨Tb, 0, none⟩)) ?_ ⟨.pointer (some ⟨Tb, 0, none⟩), rfl, hkeep 2 _ (Or.inl (by rw [HPV.out]; rfl)) hL, ?_⟩
                · clear hP hS hat haft hkeep hL hg q10
                  generalize b.eval = ρ at *
                  go_simp
                · simp only [getD_set_ne false (show 2 ≠ 6 by decide), getD_set_ne false (show 2 ≠ 7 by decide), getD_set_ne false (show 2 ≠ 10 by decide), Dag.turn_other vals (i := 2) (j := 6) _ (by decide), Dag.turn_other vals (i := 2) (j := 7) _ (by decide)]
                  exact hS
              | 3, _ =>
                injection ho with ho
                subst ho
                have e81 : b.eval (.tmp 81) = .pointer (some ⟨Tb, 0, none⟩) := (hat.new 2 _ 81 (haft ⟨2, .data⟩ (by simp) rfl) rfl rfl).trans (hP 2 _ (by rw [HPV.out]; rfl) (haft ⟨2, .data⟩ (by simp) rfl))
                have q10 : Lf.getD 10 false = false := by
                  cases h : Lf.getD 10 false with
                  | false => rfl
                  | true => have := hat.closed 10 _ h rfl ⟨3, .phase⟩ (by simp) rfl; rw [Dag.off hL] at this; cases this
                have hg := hS.g q10
                obtain ⟨c1, z1, hTx, hXx⟩ := HCx.out wx hg
                have y0 := hXx.cell (i := 0) rfl
                have y1 := hXx.cell (i := 1) rfl
                have y2 := hXx.cell (i := 2) rfl
                have hXl2 := hXx.lt
                refine Dag.yields (w' := wx) (.pointer (some ⟨Tb, 25, none⟩)) ?_ ⟨.pointer (some ⟨Tb, 25, none⟩), rfl, hkeep 3 _ (Or.inl (by rw [HPV.out]; rfl)) hL, ?_⟩
                · clear hP hS hat haft hkeep hL hg q10
                  generalize b.eval = ρ at *
                  go_simp
                · simp only [getD_set_ne false (show 3 ≠ 6 by decide), getD_set_ne false (show 3 ≠ 7 by decide), getD_set_ne false (show 3 ≠ 10 by decide), Dag.turn_other vals (i := 3) (j := 6) _ (by decide), Dag.turn_other vals (i := 3) (j := 7) _ (by decide)]
                  exact hS
              | 4, _ =>
                injection ho with ho
                subst ho
                have e82 : b.eval (.tmp 82) = .pointer (some ⟨Tb, 25, none⟩) := (hat.new 3 _ 82 (haft ⟨3, .data⟩ (by simp) rfl) rfl rfl).trans (hP 3 _ (by rw [HPV.out]; rfl) (haft ⟨3, .data⟩ (by simp) rfl))
                have q10 : Lf.getD 10 false = false := by
                  cases h : Lf.getD 10 false with
                  | false => rfl
                  | true => have := hat.closed 10 _ h rfl ⟨4, .phase⟩ (by simp) rfl; rw [Dag.off hL] at this; cases this
                have hg := hS.g q10
                obtain ⟨c1, z1, hTx, hXx⟩ := HCx.out wx hg
                have y0 := hXx.cell (i := 0) rfl
                have y1 := hXx.cell (i := 1) rfl
                have y2 := hXx.cell (i := 2) rfl
                have hXl2 := hXx.lt
                refine Dag.yields (w' := wx) (.slice ob OL oe) ?_ ⟨.slice ob OL oe, rfl, hkeep 4 _ (Or.inl (by rw [HPV.out]; rfl)) hL, ?_⟩
                · clear hP hS hat haft hkeep hL hg q10
                  generalize b.eval = ρ at *
                  go_simp
                · simp only [getD_set_ne false (show 4 ≠ 6 by decide), getD_set_ne false (show 4 ≠ 7 by decide), getD_set_ne false (show 4 ≠ 10 by decide), Dag.turn_other vals (i := 4) (j := 6) _ (by decide), Dag.turn_other vals (i := 4) (j := 7) _ (by decide)]
                  exact hS
              | 5, _ =>
                injection ho with ho
                subst ho
                have q10 : Lf.getD 10 false = false := by
                  cases h : Lf.getD 10 false with
                  | false => rfl
                  | true => have := hat.closed 10 _ h rfl ⟨5, .phase⟩ (by simp) rfl; rw [Dag.off hL] at this; cases this
                have hg := hS.g q10
                obtain ⟨c1, z1, hTx, hXx⟩ := HCx.out wx hg
                have y0 := hXx.cell (i := 0) rfl
                have y1 := hXx.cell (i := 1) rfl
                have y2 := hXx.cell (i := 2) rfl
                have hXl2 := hXx.lt
                refine Dag.yields (w' := wx) (.agg #[.int .i64 (j : Int), .int .i64 okd, .int .i64 oi]) ?_ ⟨.agg #[.int .i64 (j : Int), .int .i64 okd, .int .i64 oi], rfl, hkeep 5 _ (Or.inl (by rw [HPV.out]; rfl)) hL, ?_⟩
                · clear hP hS hat haft hkeep hL hg q10
                  generalize b.eval = ρ at *
                  go_simp
                · simp only [getD_set_ne false (show 5 ≠ 6 by decide), getD_set_ne false (show 5 ≠ 7 by decide), getD_set_ne false (show 5 ≠ 10 by decide), Dag.turn_other vals (i := 5) (j := 6) _ (by decide), Dag.turn_other vals (i := 5) (j := 7) _ (by decide)]
                  exact hS
              | 6, _ =>
                injection ho with ho
                subst ho
                have e84 : b.eval (.tmp 84) = .agg #[.int .i64 (j : Int), .int .i64 okd, .int .i64 oi] := (hat.new 5 _ 84 (haft ⟨5, .data⟩ (by simp) rfl) rfl rfl).trans (hP 5 _ (by rw [HPV.out]; rfl) (haft ⟨5, .data⟩ (by simp) rfl))
                have q10 : Lf.getD 10 false = false := by
                  cases h : Lf.getD 10 false with
                  | false => rfl
                  | true => have := hat.closed 10 _ h rfl ⟨6, .phase⟩ (by simp) rfl; rw [Dag.off hL] at this; cases this
                have hg := hS.g q10
                obtain ⟨c1, z1, hTx, hXx⟩ := HCx.out wx hg
                have y0 := hXx.cell (i := 0) rfl
                have y1 := hXx.cell (i := 1) rfl
                have y2 := hXx.cell (i := 2) rfl
                have hXl2 := hXx.lt
                have q7 : Lf.getD 7 false = false := by
                  cases h : Lf.getD 7 false with
                  | false => rfl
                  | true => have := hat.closed 7 _ h rfl ⟨6, .data⟩ (by simp) rfl; rw [Dag.off hL] at this; cases this
                rw [q7, q10, Dag.off hL] at hS
                refine Dag.yields (w' := wx.alloc (.cells #[.int .i64 (j : Int), .int .i64 okd, .int .i64 oi] 30)) (.slice (some ⟨wx.heap.size, 0, none⟩) 1 1) ?_ ⟨_, rfl, hkeep 6 _ (Or.inr (by rw [HPV.out]; rfl)) hL, ?_⟩
                · clear hP hS hat haft hkeep hL hg
                  generalize b.eval = ρ at *
                  go_simp
                rw [Dag.on hL]
                simp only [getD_set_ne false (show 6 ≠ 7 by decide), getD_set_ne false (show 6 ≠ 10 by decide), Dag.turn_same, Dag.turn_other vals (i := 6) (j := 7) _ (by decide)]
                rw [q7, q10]
                exact hS.lay
              | 7, _ =>
                injection ho with ho
                subst ho
                have e83 : b.eval (.tmp 83) = .slice ob OL oe := (hat.new 4 _ 83 (haft ⟨4, .data⟩ (by simp) rfl) rfl rfl).trans (hP 4 _ (by rw [HPV.out]; rfl) (haft ⟨4, .data⟩ (by simp) rfl))
                have e85 : b.eval (.tmp 85) = vals 6 := hat.new 6 _ 85 (haft ⟨6, .data⟩ (by simp) rfl) rfl rfl
                have l6 : Lf.getD 6 false = true := haft ⟨6, .data⟩ (by simp) rfl
                have q10 : Lf.getD 10 false = false := by
                  cases h : Lf.getD 10 false with
                  | false => rfl
                  | true => have := hat.closed 10 _ h rfl ⟨7, .phase⟩ (by simp) rfl; rw [Dag.off hL] at this; cases this
                have hg := hS.g q10
                obtain ⟨c1, z1, hTx, hXx⟩ := HCx.out wx hg
                have y0 := hXx.cell (i := 0) rfl
                have y1 := hXx.cell (i := 1) rfl
                have y2 := hXx.cell (i := 2) rfl
                have hXl2 := hXx.lt
                rw [l6, q10, Dag.off hL] at hS
                have hbl := hS.a rfl rfl
                have hown := ownsRow_below (HOut.out) hbl
                have hvb := hS.b rfl
                have hkb := hS.k rfl rfl rfl
                have hsz := hbl.size
                refine wp_append_lies wx _ _ 22 rfl (B) 30 i0 _ 3 24 Tryz.underlying22 hi0 hz0 hz1 hz2 rfl (by decide) (.slice ob OL oe) (OL) (opVals s.out) e83 hown ⟨_, 0, none⟩ 1 1 [.int .i64 (j : Int), .int .i64 okd, .int .i64 oi] (e85.trans hvb) rfl (World.news_of_block (cs := #[.int .i64 (j : Int), .int .i64 okd, .int .i64 oi]) (t := 30) (fr := (0, 0)) hkb) (by simp [Value.oneCell']) (by omega) (by unfold maxLen; omega) (by omega) (by have := hsz; omega) _ rfl ?_
                intro gQ gcQ w'' hown2 hgrow hatg hltg
                refine ⟨_, rfl, hkeep 7 _ (Or.inr (by rw [HPV.out]; rfl)) hL, ?_⟩
                rw [Dag.on hL]
                simp only [getD_set_ne false (show 7 ≠ 6 by decide), getD_set_ne false (show 7 ≠ 10 by decide), Dag.turn_same, Dag.turn_other vals (i := 7) (j := 6) _ (by decide)]
                rw [l6, q10]
                exact hS.app hown2 hgrow hatg
              | 8, _ =>
                injection ho with ho
                subst ho
                have e79 : b.eval (.tmp 79) = .pointer (some ⟨Tb, 0, none⟩) := (hat.new 0 _ 79 (haft ⟨0, .data⟩ (by simp) rfl) rfl rfl).trans (hP 0 _ (by rw [HPV.out]; rfl) (haft ⟨0, .data⟩ (by simp) rfl))
                have q10 : Lf.getD 10 false = false := by
                  cases h : Lf.getD 10 false with
                  | false => rfl
                  | true =>
                    have h9 := hat.closed 10 _ h rfl ⟨9, .data⟩ (by simp) rfl
                    have h8 := hat.closed 9 _ h9 rfl ⟨8, .data⟩ (by simp) rfl
                    rw [Dag.off hL] at h8; cases h8
                have hg := hS.g q10
                obtain ⟨c1, z1, hTx, hXx⟩ := HCx.out wx hg
                have y0 := hXx.cell (i := 0) rfl
                have y1 := hXx.cell (i := 1) rfl
                have y2 := hXx.cell (i := 2) rfl
                have hXl2 := hXx.lt
                refine Dag.yields (w' := wx) (.pointer (some ⟨Tb, 0, none⟩)) ?_ ⟨.pointer (some ⟨Tb, 0, none⟩), rfl, hkeep 8 _ (Or.inl (by rw [HPV.out]; rfl)) hL, ?_⟩
                · clear hP hS hat haft hkeep hL hg q10
                  generalize b.eval = ρ at *
                  go_simp
                · simp only [getD_set_ne false (show 8 ≠ 6 by decide), getD_set_ne false (show 8 ≠ 7 by decide), getD_set_ne false (show 8 ≠ 10 by decide), Dag.turn_other vals (i := 8) (j := 6) _ (by decide), Dag.turn_other vals (i := 8) (j := 7) _ (by decide)]
                  exact hS
              | 9, _ =>
                injection ho with ho
                subst ho
                have e87 : b.eval (.tmp 87) = .pointer (some ⟨Tb, 0, none⟩) := (hat.new 8 _ 87 (haft ⟨8, .data⟩ (by simp) rfl) rfl rfl).trans (hP 8 _ (by rw [HPV.out]; rfl) (haft ⟨8, .data⟩ (by simp) rfl))
                have q10 : Lf.getD 10 false = false := by
                  cases h : Lf.getD 10 false with
                  | false => rfl
                  | true =>
                    have h9 := hat.closed 10 _ h rfl ⟨9, .data⟩ (by simp) rfl
                    rw [Dag.off hL] at h9; cases h9
                have hg := hS.g q10
                obtain ⟨c1, z1, hTx, hXx⟩ := HCx.out wx hg
                have y0 := hXx.cell (i := 0) rfl
                have y1 := hXx.cell (i := 1) rfl
                have y2 := hXx.cell (i := 2) rfl
                have hXl2 := hXx.lt
                refine Dag.yields (w' := wx) (.pointer (some ⟨Tb, 25, none⟩)) ?_ ⟨.pointer (some ⟨Tb, 25, none⟩), rfl, hkeep 9 _ (Or.inl (by rw [HPV.out]; rfl)) hL, ?_⟩
                · clear hP hS hat haft hkeep hL hg q10
                  generalize b.eval = ρ at *
                  go_simp
                · simp only [getD_set_ne false (show 9 ≠ 6 by decide), getD_set_ne false (show 9 ≠ 7 by decide), getD_set_ne false (show 9 ≠ 10 by decide), Dag.turn_other vals (i := 9) (j := 6) _ (by decide), Dag.turn_other vals (i := 9) (j := 7) _ (by decide)]
                  exact hS
              | 10, _ =>
                injection ho with ho
                subst ho
                have e88 : b.eval (.tmp 88) = .pointer (some ⟨Tb, 25, none⟩) := (hat.new 9 _ 88 (haft ⟨9, .data⟩ (by simp) rfl) rfl rfl).trans (hP 9 _ (by rw [HPV.out]; rfl) (haft ⟨9, .data⟩ (by simp) rfl))
                have e86 : b.eval (.tmp 86) = vals 7 := hat.new 7 _ 86 (haft ⟨7, .data⟩ (by simp) rfl) rfl rfl
                have l7 : Lf.getD 7 false = true := haft ⟨7, .data⟩ (by simp) rfl
                have lb : Lf.getD 6 false = true := hat.closed 7 _ l7 rfl ⟨6, .data⟩ (by simp) rfl
                rw [lb, l7, Dag.off hL] at hS
                have hg := hS.g rfl
                obtain ⟨c1, z1, hTx, hXx⟩ := HCx.out wx hg
                have y0 := hXx.cell (i := 0) rfl
                have y1 := hXx.cell (i := 1) rfl
                have y2 := hXx.cell (i := 2) rfl
                have hXl2 := hXx.lt
                obtain ⟨gQ, gcQ, hva, _⟩ := hS.c rfl rfl
                have hput := hS.put
                rw [hva] at hput
                have ev := e86.trans hva
                refine Dag.skips (w' := wx.setCell (⟨Tb, 25, none⟩) (.slice (some ⟨gQ, 0, none⟩) (OL + 1) gcQ)) ?_ ⟨_, rfl, hkeep 10 _ (Or.inr (by rw [HPV.out]; rfl)) hL, ?_⟩
                · clear hP hS hat haft hkeep hL hg hput e86 hva
                  generalize b.eval = ρ at *
                  go_simp
                rw [Dag.on hL]
                simp only [getD_set_ne false (show 10 ≠ 6 by decide), getD_set_ne false (show 10 ≠ 7 by decide), Dag.turn_other vals (i := 10) (j := 6) _ (by decide), Dag.turn_other vals (i := 10) (j := 7) _ (by decide)]
                rw [lb, l7, hva]
                exact hput
              | i + 11, h => exact absurd h (by simp)
            · intro Lf vals wx hall hR
              obtain ⟨hP, hS⟩ := hR
              rw [hall 6 (by simp), hall 7 (by simp), hall 10 (by simp)] at hS
              obtain ⟨w1, hwx, gQ, gcQ, hva, hown, hatg, hgrow⟩ := hS.d rfl
              have hvb := hS.b rfl
              have u0 := hP 0 _ (by rw [HPV.out]; rfl) (hall 0 (by simp))
              have u1 := hP 1 _ (by rw [HPV.out]; rfl) (hall 1 (by simp))
              have u2 := hP 2 _ (by rw [HPV.out]; rfl) (hall 2 (by simp))
              have u3 := hP 3 _ (by rw [HPV.out]; rfl) (hall 3 (by simp))
              have u4 := hP 4 _ (by rw [HPV.out]; rfl) (hall 4 (by simp))
              have u5 := hP 5 _ (by rw [HPV.out]; rfl) (hall 5 (by simp))
              have u8 := hP 8 _ (by rw [HPV.out]; rfl) (hall 8 (by simp))
              have u9 := hP 9 _ (by rw [HPV.out]; rfl) (hall 9 (by simp))
              simp only [Dag.all, List.size_toArray, List.length_cons, List.length_nil, Nat.reduceAdd, List.getElem?_toArray, List.getElem?_cons_zero, List.getElem?_cons_succ, Option.bind_some]
              rw [u0, u1, u2, u3, u4, u5, u8, u9, hvb, hva]
              rw [hva] at hown hwx
              have hsr := HW8.out.pushOut (o := ⟨(j : Int), okd, oi⟩) hv12 HOL.out hown hgrow hatg
              have HSR := box hsr
              rw [hwx]
              clear hP hS hall hown hgrow hatg hwx hvb hva hsr
              go_wp2_with fail
              go_meet
              exact ⟨_, HSR⟩
          case rest =>
            obtain ⟨u, HS9⟩ := hcut
            have HFin := box (HPost.out _ wc rfl ⟨{ s with locks := t2, out := s.out ++ [⟨j, okd, oi⟩] }, _, by rw [← Ht2.out]; exact .ok rfl HD.out hl0 hk3 Hbb.out, ⟨_, _, _, _, HS9.out.1⟩, HO8.out.trans HS9.out.2⟩)
            clear HCx HOut HS9
            go_wp2_with fail
            exact bodyPost_end (results_none rfl _ _ _) rfl HFin.out
        | false =>
          go_upto_region 11 with (fail)
          have c9 := HW8.out.cLate hj12
          have z9 := HW8.out.blk.frozen (1 + j)
          have hB2 : B ≤ V8.heap.size := HW8.out.bw
          have HSet : Box (∀ W, Below V8.heap.size V8 W → TwoW ((W.alloc (.cells #[.int .i64 (j : Int), .int .i64 okd, .int .i64 oi] 30)).setCell ⟨Tb, 1 + j, none⟩ (.slice (some ⟨W.heap.size, 0, none⟩) 1 1)) B Tb { s with locks := t2, late := upd s.late j [⟨j, okd, oi⟩] } (upd v j (.slice (some ⟨W.heap.size, 0, none⟩) 1 1)) ta tc w3.heap.size w4 ∧ Only B Tb v (upd v j (.slice (some ⟨W.heap.size, 0, none⟩) 1 1)) V8 ((W.alloc (.cells #[.int .i64 (j : Int), .int .i64 okd, .int .i64 oi] 30)).setCell ⟨Tb, 1 + j, none⟩ (.slice (some ⟨W.heap.size, 0, none⟩) 1 1))) := ⟨fun W hb => by
            have hb2 : Below W.heap.size W (W.alloc (.cells #[.int .i64 (j : Int), .int .i64 okd, .int .i64 oi] 30)) := (Below.refl _ _).alloc (Nat.le_refl _) _
            have hs := (HW8.out.after hb).setRow (s' := { s with locks := t2, late := upd s.late j [⟨j, okd, oi⟩] }) (i := j) (by omega) (W' := W.alloc (.cells #[.int .i64 (j : Int), .int .i64 okd, .int .i64 oi] 30)) (u := .slice (some ⟨W.heap.size, 0, none⟩) 1 1) (l := [⟨j, okd, oi⟩]) (World.ownsRow_lit W #[.int .i64 (j : Int), .int .i64 okd, .int .i64 oi] 1 (Nat.le_trans hB2 hb.size) (by decide) rfl) ⟨hb2.os, hb2.tape, hb2.output, hb2.size, fun b h1 _ => hb2.block b h1⟩ (by intro b hb; right; simp [Value.ownBlock] at hb; omega) (rows_late hj12 rfl rfl) rfl (fun _ _ => rfl) (1 + j) (by rw [if_neg (by omega)])
            exact ⟨hs.1, (HW8.out.only hb).trans hs.2⟩⟩
          go_cut [] from 8 to 98 (fun wx => ∃ u, Box (TwoW wx B Tb { s with locks := t2, late := upd s.late j [⟨j, okd, oi⟩] } (upd v j u) ta tc w3.heap.size w4 ∧ Only B Tb v (upd v j u) V8 wx))
          case first => as_aux_lemma =>
            go_region
            go_wp2_with fail
            go_meet
            have hw : (V8.setCell ⟨Tb, 1 + j, none⟩ (.slice (some ⟨V8.heap.size, 0, none⟩) 1 1)).alloc (.cells #[.int .i64 (j : Int), .int .i64 okd, .int .i64 oi] 30) = (V8.alloc (.cells #[.int .i64 (j : Int), .int .i64 okd, .int .i64 oi] 30)).setCell ⟨Tb, 1 + j, none⟩ (.slice (some ⟨V8.heap.size, 0, none⟩) 1 1) := (World.setCell_alloc_past _ _ _ _ hTl).symm
            rw [hw]
            have hs := HSet.out V8 (Below.refl _ _)
            have hd : ∀ W : World, Below W.heap.size W W.drew := fun W => (Below.refl _ _).drew
            exact ⟨_, ⟨hs.1.after (hd _), hs.2.after (hd _) hs.1.bw⟩⟩
          case rest =>
            obtain ⟨u, HS9⟩ := hcut
            have hdm := askDom (o := ⟨j, okd, oi⟩) rfl HBad.out
            have HG2 : Box (LkM.Good t2) := ⟨by
              have := LkM.ask_good (a := ⟨j, TwoM.mode ⟨j, okd, oi⟩⟩) hdm.1 ⟨hdm.2.1, hdm.2.2⟩ HI.out.good (not_waiting HI.out hl0)
              rwa [Ht2.out] at this⟩
            have HI2 : Box (Inv { s with locks := t2, late := upd s.late j [⟨j, okd, oi⟩] } G p h) := ⟨by
              have h1 := HI.out.waits (o := ⟨j, okd, oi⟩) HD.out hl0 hk3 (by rw [Ht2.out]; exact HG2.out) (LkM.ask_no HI.out.good HI.out.plain (mode_two _) (not_waiting HI.out hl0) Hbb.out)
              rw [Ht2.out] at h1
              exact h1⟩
            have HLt : Box (lates { s with locks := t2, late := upd s.late j [⟨j, okd, oi⟩] } ≤ m + 1) := ⟨by
              rw [lates_one hj12 hl0]
              omega⟩
            have HCall := box (HFr.out B Tb wc { s with locks := t2, late := upd s.late j [⟨j, okd, oi⟩] } _ G p h ⟨_, _, _, _, HS9.out.1⟩ HI2.out HTo.out HLt.out)
            have HFin : Box (∀ s3 v3 w6, Free { s with locks := t2, late := upd s.late j [⟨j, okd, oi⟩] } s3 → At w6 B Tb s3 v3 → Only B Tb (upd v j u) v3 wc w6 → PP (.returned (.tuple #[])) w6) := ⟨fun s3 v3 w6 k1 k2 k3 => HPost.out _ w6 rfl ⟨s3, v3, .wait rfl HD.out hl0 hk3 Hbb.out (by rw [Ht2.out]; exact k1), k2, (HO8.out.trans HS9.out.2).trans k3⟩⟩
            clear HSet HS9 c9 z9
            go_wp2_with fail
            refine HCall.out.mono ?_
            rintro e w6 ⟨rfl, s3, v3, k1, k2, k3⟩
            have HF2 := box (HFin.out s3 v3 w6 k1 k2 k3)
            go_wp2_with fail
            exact bodyPost_end (results_none rfl _ _ _) rfl HF2.out
end
section
section
open Go.RowKit Go.Lib

open TwoM in
theorem two_specs : ∀ m : Nat, TakeSpec m ∧ WakeSpec m ∧ DropSpec m
  | 0 => by
    have hw : WakeSpec 0 := by
      intro B Tb w s v o r j G p h hAt hl hj hI ht hm
      have := lates_wake (s := s) hj hl
      omega
    refine ⟨?_, hw, tdrop_any 0 hw⟩
    intro B Tb w s v o j G p h hAt hj hb hI ht hm
    omega
  | m + 1 => by
    obtain ⟨h1, _, h3⟩ := two_specs m
    have hw := wake_any m h1
    exact ⟨ttake_any m (tfree_any m h3) h3, hw, tdrop_any (m + 1) hw⟩
open TwoM in
/-- take does what Take says. -/
theorem take_is (B Tb : Nat) (w : World) (s : S) (v : Nat → Value) (o : OpM) (j : Nat) (G : List Int) (p h : Nat → List OpM) (h1 : At w B Tb s v) (h2 : o.tx = (j : Int)) (h3 : RunM.bad o = 0) (h4 : Inv s G (upd p j (o :: p j)) h) (h5 : total h ≤ 200) :
    Calls Tryz.prog 25 #[.pointer (some ⟨Tb, 0, none⟩), .agg #[.int .i64 o.tx, .int .i64 o.kind, .int .i64 o.item]] w (Post B Tb (Take s o) v w) :=
  (two_specs (lates s + 1)).1 B Tb w s v o j G p h h1 h2 h3 h4 h5 (Nat.le_refl _)
end
section
open Go.RowKit Go.Lib

namespace TwoM
open LkM
theorem two_start {w w' : World} {s : S} (hl : s.locks = []) (h1 : ∀ i, s.late i = []) (h2 : ∀ i, s.dead i = false) (ho : s.out = []) (hb : Blk w' w.heap.size 68 (Tab 26 fun c => if c < 13 then .slice none 0 0 else if c < 25 then .bool false else .slice none 0 0)) : TwoW w' w.heap.size w.heap.size s (fun _ => .slice none 0 0) none 0 (w.heap.size + 1) w' := by
  refine ⟨?_, ⟨fun i hi => ?_, fun i j _ _ _ b hb => (by cases hb)⟩, (by rw [hl]; exact Or.inl rfl), fun b _ _ => rfl, Nat.le_refl _, fun i _ b hb => (by cases hb), Or.inl (by omega), Nat.le_refl _⟩
  · rw [show Tab 26 (cellF s (fun _ => .slice none 0 0) none 0) = Tab 26 (fun c => if c < 13 then .slice none 0 0 else if c < 25 then .bool false else .slice none 0 0) from Tab_congr fun c hc => by
      unfold cellF
      rw [hl]
      by_cases e0 : c = 0
      · rw [if_pos e0, if_pos (by omega)]; rfl
      · rw [if_neg e0]
        by_cases e1 : c < 13
        · rw [if_pos e1, if_pos e1]
        · rw [if_neg e1, if_neg e1]
          by_cases e2 : c < 25
          · rw [if_pos e2, if_pos e2, h2]
          · rw [if_neg e2, if_neg e2]]
    exact hb
  · have : rows s i = [] := by unfold rows; split <;> simp [ho, h1]
    rw [this]
    exact World.ownsRow_nil _ _ _ _
end TwoM
end
section
namespace TwoM
open LkM
/-- Those below n of whom p holds. -/
def pick (p : Nat → Bool) (n : Nat) : List Int := ((List.range n).filter p).map fun k : Nat => (k : Int)
theorem pick_succ (p : Nat → Bool) (n : Nat) : pick p (n + 1) = pick p n ++ if p n then [(n : Int)] else [] := by
  unfold pick
  rw [List.range_succ, List.filter_append, List.map_append]
  congr 1
  by_cases h : p n = true <;> simp [h]
theorem pick_len (p : Nat → Bool) (n : Nat) : (pick p n).length ≤ n := by
  unfold pick
  rw [List.length_map]
  exact Nat.le_trans (List.length_filter_le _ _) (by simp)
theorem mem_pick {p : Nat → Bool} {n j : Nat} : (j : Int) ∈ pick p n ↔ j < n ∧ p j = true := by
  unfold pick
  rw [List.mem_map]
  constructor
  · rintro ⟨k, hk, e⟩
    obtain rfl : k = j := by omega
    rw [List.mem_filter, List.mem_range] at hk
    exact hk
  · intro h
    exact ⟨j, List.mem_filter.2 ⟨List.mem_range.2 h.1, h.2⟩, rfl⟩
def isLate (s : S) (k : Nat) : Bool := decide (0 < (s.late k).length)
theorem Take.is_ok {s s' : S} {o : OpM} {j : Nat} (h : Take s o s') (hj : o.tx = j) (hd : s.dead j = false) (hl : s.late j = []) (hk : o.kind < 3) (ha : (askIn o.item ⟨j, mode o⟩ s.locks).2 = true) :
    s' = { s with locks := (askIn o.item ⟨j, mode o⟩ s.locks).1, out := s.out ++ [o] } := by
  cases h with
  | @dead _ _ i h1 h2 => obtain rfl : i = j := by omega
                         rw [hd] at h2; cases h2
  | @late _ _ i h1 h2 h3 => obtain rfl : i = j := by omega
                            exact absurd hl h3
  | @ends _ _ _ i h1 h2 h3 h4 _ => omega
  | @ok _ _ i h1 h2 h3 h4 h5 => obtain rfl : i = j := by omega
                                rfl
  | @wait _ _ _ i h1 h2 h3 h4 h5 _ => obtain rfl : i = j := by omega
                                      rw [ha] at h5; cases h5
theorem Take.is_wait {s s' : S} {o : OpM} {j : Nat} (h : Take s o s') (hj : o.tx = j) (hd : s.dead j = false) (hl : s.late j = []) (hk : o.kind < 3) (ha : (askIn o.item ⟨j, mode o⟩ s.locks).2 = false) :
    Free { s with locks := (askIn o.item ⟨j, mode o⟩ s.locks).1, late := upd s.late j [o] } s' := by
  cases h with
  | @dead _ _ i h1 h2 => obtain rfl : i = j := by omega
                         rw [hd] at h2; cases h2
  | @late _ _ i h1 h2 h3 => obtain rfl : i = j := by omega
                            exact absurd hl h3
  | @ends _ _ _ i h1 h2 h3 h4 _ => omega
  | @ok _ _ i h1 h2 h3 h4 h5 => obtain rfl : i = j := by omega
                                rw [ha] at h5; cases h5
  | @wait _ _ _ i h1 h2 h3 h4 h5 h6 => obtain rfl : i = j := by omega
                                       exact h6
theorem Take.is_ends {s s' : S} {o : OpM} {j : Nat} (h : Take s o s') (hj : o.tx = j) (hd : s.dead j = false) (hl : s.late j = []) (hk : 3 ≤ o.kind) :
    Drops { s with out := s.out ++ [o] } j s' := by
  cases h with
  | @dead _ _ i h1 h2 => obtain rfl : i = j := by omega
                         rw [hd] at h2; cases h2
  | @late _ _ i h1 h2 h3 => obtain rfl : i = j := by omega
                            exact absurd hl h3
  | @ends _ _ _ i h1 h2 h3 h4 h5 => obtain rfl : i = j := by omega
                                    exact h5
  | @ok _ _ i h1 h2 h3 h4 h5 => omega
  | @wait _ _ _ i h1 h2 h3 h4 h5 h6 => omega
theorem Free.is_done {s s' : S} (h : Free s s') (ho : GrM.order 12 (waits s.locks) ≠ none) : s' = s := by
  cases h with
  | done _ => rfl
  | step h1 h2 _ _ =>
    have := (VicM.Vic.empty h1).2 ho
    subst this
    exact absurd h2.1 List.not_mem_nil
theorem Drops.one {s s' : S} {j i : Nat} {o : OpM} (h : Drops s j s') (hg : (drop s.locks j).2 = [(i : Int)]) (hl : s.late i = [o]) : s' = { s with locks := (drop s.locks j).1, late := upd s.late i [], out := s.out ++ [o] } := by
  cases h with
  | mk h =>
    rw [hg] at h
    generalize hG : [(i : Int)] = G at h
    cases h with
    | nil => cases hG
    | @cons _ s1 _ i' g o' r h1 h2 h3 =>
      injection hG with hG1 hG2
      obtain rfl : i = i' := by omega
      subst hG2
      rw [hl] at h1
      injection h1 with h4 h5
      subst h4; subst h5
      cases h2 with
      | nil =>
        cases h3 with
        | nil => rfl
theorem Drops.zero {s s' : S} {j : Nat} (h : Drops s j s') (hg : (drop s.locks j).2 = []) : s' = { s with locks := (drop s.locks j).1 } := by
  cases h with
  | mk h =>
    rw [hg] at h
    cases h with
    | nil => rfl
theorem vic_two {out : List Nat} (h : VicM.Vic 12 [⟨0, 1⟩, ⟨1, 0⟩] out) : out = [1] := by
  have hE : ∀ a b, GrM.E [⟨0, 1⟩, ⟨1, 0⟩] a b = true ↔ (a = 0 ∧ b = 1) ∨ (a = 1 ∧ b = 0) := fun a b => by
    rw [GrM.E_iff]; simp; omega
  have h1 : GrM.Path 12 [⟨0, 1⟩, ⟨1, 0⟩] 1 1 := .more (.one (by omega) ((hE 1 0).2 (by omega))) (by omega) ((hE 0 1).2 (by omega))
  have h2 : ∀ a b, GrM.Path 12 [⟨0, 1⟩, ⟨1, 0⟩] a b → b ≤ 1 := fun a b hp => by
    cases hp with
    | one _ h => have := (hE _ _).1 h; omega
    | more _ _ h => have := (hE _ _).1 h; omega
  cases h with
  | done h => exact absurd h1 (h 1)
  | @step _ k out h3 h4 h5 =>
    have h6 := h2 k k h3
    have h7 := h4 1 h1
    obtain rfl : k = 1 := by omega
    have hd : VicM.del ((1 : Nat) : Int) [⟨0, 1⟩, ⟨1, 0⟩] = [] := by decide
    rw [hd] at h5
    cases h5 with
    | done _ => rfl
    | step h8 _ _ =>
      obtain ⟨c, hc⟩ := VicM.path_out h8
      rw [GrM.E_iff] at hc
      cases hc
/-- Two that wait for each other. -/
def exD : List OpM := [⟨0, 2, 1⟩, ⟨1, 2, 2⟩, ⟨0, 2, 2⟩, ⟨1, 2, 1⟩]
theorem exD_is {s : S} (h : Takes start exD s) : pick s.dead 12 = [1] ∧ pick (isLate s) 12 = [] := by
  cases h with
  | cons h1 h => cases h with
  | cons h2 h => cases h with
  | cons h3 h => cases h with
  | cons h4 h => cases h with
  | nil =>
    obtain rfl := h1.is_ok (j := 0) rfl rfl rfl (by decide) (by decide)
    obtain rfl := h2.is_ok (j := 1) rfl rfl rfl (by decide) (by decide)
    have h3 := h3.is_wait (j := 0) rfl rfl rfl (by decide) (by decide)
    obtain rfl := h3.is_done (by decide)
    have h4 := h4.is_wait (j := 1) rfl rfl rfl (by decide) (by decide)
    cases h4 with
    | done h =>
      exact absurd ((VicM.Vic.empty h).1 rfl) (by decide)
    | @step _ s1 _ out k g1 g2 g3 g4 =>
      have hw : waits (askIn 1 ⟨1, 5⟩ (askIn 2 ⟨0, 5⟩ (askIn 2 ⟨1, 5⟩ (askIn 1 ⟨0, 5⟩ []).1).1).1).1 = [⟨0, 1⟩, ⟨1, 0⟩] := by decide
      have g5 : VicM.Vic 12 (waits (askIn 1 ⟨1, 5⟩ (askIn 2 ⟨0, 5⟩ (askIn 2 ⟨1, 5⟩ (askIn 1 ⟨0, 5⟩ []).1).1).1).1) out := g1
      rw [hw] at g5
      obtain rfl := vic_two g5
      obtain rfl : k = 1 := List.mem_singleton.1 g2.1
      obtain rfl := g3.one (i := 0) (o := ⟨0, 2, 2⟩) (by decide) rfl
      obtain rfl := g4.is_done (by decide)
      decide
def exL : List OpM := [⟨0, 2, 1⟩, ⟨1, 1, 1⟩]
theorem exL_is {s : S} (h : Takes start exL s) : pick (isLate s) 12 = [1] := by
  cases h with
  | cons h1 h => cases h with
  | cons h2 h => cases h with
  | nil =>
    obtain rfl := h1.is_ok (j := 0) rfl rfl rfl (by decide) (by decide)
    have h3 := h2.is_wait (j := 1) rfl rfl rfl (by decide) (by decide)
    obtain rfl := h3.is_done (by decide)
    decide
def exS : List OpM := [⟨0, 2, 1⟩, ⟨1, 1, 1⟩, ⟨0, 3, 0⟩, ⟨1, 3, 0⟩]
theorem exS_is {s : S} (h : Takes start exS s) : s.out = [⟨0, 2, 1⟩, ⟨0, 3, 0⟩, ⟨1, 1, 1⟩, ⟨1, 3, 0⟩] := by
  cases h with
  | cons h1 h => cases h with
  | cons h2 h => cases h with
  | cons h3 h => cases h with
  | cons h4 h => cases h with
  | nil =>
    obtain rfl := h1.is_ok (j := 0) rfl rfl rfl (by decide) (by decide)
    have h2 := h2.is_wait (j := 1) rfl rfl rfl (by decide) (by decide)
    obtain rfl := h2.is_done (by decide)
    have h3 := h3.is_ends (j := 0) rfl rfl rfl (by decide)
    obtain rfl := h3.one (i := 1) (o := ⟨1, 1, 1⟩) (by decide) rfl
    have h4 := h4.is_ends (j := 1) rfl rfl rfl (by decide)
    obtain rfl := h4.zero (by decide)
    rfl
def exO : List OpM := [⟨0, 1, 1⟩]
theorem exO_is {s : S} (h : Takes start exO s) : s.out = [⟨0, 1, 1⟩] := by
  cases h with
  | cons h1 h => cases h with
  | nil =>
    obtain rfl := h1.is_ok (j := 0) rfl rfl rfl (by decide) (by decide)
    rfl
end TwoM
end
section
open Go.RowKit Go.Lib

namespace TwoM
/-- The answer lies in block P, its rows of numbers behind that. -/
structure PlW (W2 : World) (P : Nat) (rv : Value) (ds ls : List Int) (dv lv : Value) (W : World) : Prop where
  size : W2.heap.size = P
  blk : Blk W P 25 [rv, dv, lv]
  own1 : W.ownsRow (P + 1) 3 1 dv ds.length (intVals ds)
  own2 : W.ownsRow (P + 1) 3 1 lv ls.length (intVals ls)
  ap : ∀ b, dv.ownBlock = some b → lv.ownBlock ≠ some b
  below : Below P W2 W
section
variable {W2 W w7 : World} {P g gc : Nat} {rv dv lv : Value} {ds ls : List Int}
theorem PlW.after (h : PlW W2 P rv ds ls dv lv W) (o : Obj) : PlW W2 P rv ds ls dv lv (W.alloc o) :=
  ⟨h.size, h.blk.alloc o, h.own1.alloc o, h.own2.alloc o, h.ap, h.below.alloc (by have := h.below.size; have := h.size; omega) o⟩
theorem PlW.ne1 (h : PlW W2 P rv ds ls dv lv W) : dv.ownBlock ≠ some P := fun e => by have := (h.own1.lt P e).1; omega
theorem PlW.ne2 (h : PlW W2 P rv ds ls dv lv W) : lv.ownBlock ≠ some P := fun e => by have := (h.own2.lt P e).1; omega
theorem PlW.push1 (h : PlW W2 P rv ds ls dv lv W) {k : Int} (ho : w7.ownsRow (P + 1) 3 1 (.slice (some ⟨g, 0, none⟩) (ds.length + 1) gc) (ds.length + 1) (intVals ds ++ [.int .i64 k])) (hg : W.grownBy w7 dv.ownBlock) (hat : dv.ownBlock = some g ∨ W.heap.size ≤ g) :
    Blk w7 P 25 [rv, dv, lv] ∧ PlW W2 P rv (ds ++ [k]) ls (.slice (some ⟨g, 0, none⟩) (ds.length + 1) gc) lv (w7.setCell ⟨P, 1, none⟩ (.slice (some ⟨g, 0, none⟩) (ds.length + 1) gc)) := by
  have hb := h.blk.grown hg h.ne1
  have k2 := h.own2.kept hg (by
    by_cases e : lv.ownBlock = none
    · exact Or.inl e
    · right
      intro e2
      obtain ⟨b, hb⟩ := Option.ne_none_iff_exists'.1 e
      exact h.ap b (e2 ▸ hb) hb)
  have hgP : g ≠ P := by
    have := (ho.lt g rfl).1
    omega
  refine ⟨hb, h.size, hb.set 1 _, ?_, ownsRow_setCell_other k2 h.ne2 _, fun b e e2 => ?_, (h.below.grown hg (by have := h.below.size; have := h.size; omega) (fun b hb => by have := (h.own1.lt b hb).1; omega)).setCell (Nat.le_refl _) _⟩
  · have : w7.ownsRow (P + 1) 3 1 (.slice (some ⟨g, 0, none⟩) (ds.length + 1) gc) (ds ++ [k]).length (intVals (ds ++ [k])) := by
      rw [intVals_append, List.length_append]; exact ho
    exact ownsRow_setCell_other this (fun e => hgP (by simpa [Value.ownBlock] using e)) _
  · obtain rfl : g = b := by simpa [Value.ownBlock] using e
    rcases hat with hat | hat
    · exact h.ap g hat e2
    · have := (h.own2.lt g e2).2; omega
theorem PlW.push2 (h : PlW W2 P rv ds ls dv lv W) {k : Int} (ho : w7.ownsRow (P + 1) 3 1 (.slice (some ⟨g, 0, none⟩) (ls.length + 1) gc) (ls.length + 1) (intVals ls ++ [.int .i64 k])) (hg : W.grownBy w7 lv.ownBlock) (hat : lv.ownBlock = some g ∨ W.heap.size ≤ g) :
    Blk w7 P 25 [rv, dv, lv] ∧ PlW W2 P rv ds (ls ++ [k]) dv (.slice (some ⟨g, 0, none⟩) (ls.length + 1) gc) (w7.setCell ⟨P, 2, none⟩ (.slice (some ⟨g, 0, none⟩) (ls.length + 1) gc)) := by
  have hb := h.blk.grown hg h.ne2
  have k2 := h.own1.kept hg (by
    by_cases e : dv.ownBlock = none
    · exact Or.inl e
    · right
      intro e2
      obtain ⟨b, hb⟩ := Option.ne_none_iff_exists'.1 e
      exact h.ap b hb (e2 ▸ hb))
  have hgP : g ≠ P := by
    have := (ho.lt g rfl).1
    omega
  refine ⟨hb, h.size, hb.set 2 _, ownsRow_setCell_other k2 h.ne1 _, ?_, fun b e e2 => ?_, (h.below.grown hg (by have := h.below.size; have := h.size; omega) (fun b hb => by have := (h.own2.lt b hb).1; omega)).setCell (Nat.le_refl _) _⟩
  · have : w7.ownsRow (P + 1) 3 1 (.slice (some ⟨g, 0, none⟩) (ls.length + 1) gc) (ls ++ [k]).length (intVals (ls ++ [k])) := by
      rw [intVals_append, List.length_append]; exact ho
    exact ownsRow_setCell_other this (fun e => hgP (by simpa [Value.ownBlock] using e)) _
  · obtain rfl : g = b := by simpa [Value.ownBlock] using e2
    rcases hat with hat | hat
    · exact h.ap g e hat
    · have := (h.own1.lt g e).2; omega
end
/-- What Play leaves. -/
def PlayPost (l : List OpM) (w : World) (e : Ending) (w' : World) : Prop :=
  Below w.heap.size w w' ∧ ((RunM.check l ≠ 0 ∧ e = .returned (.tuple #[.agg #[.slice none 0 0, .slice none 0 0, .slice none 0 0], .int .i64 (RunM.check l)])) ∨
    (RunM.check l = 0 ∧ ∃ s rv dv lv, Takes start l s ∧ e = .returned (.tuple #[.agg #[rv, dv, lv], .int .i64 0]) ∧
      w'.ownsRow w.heap.size 30 3 rv s.out.length (opVals s.out) ∧ w'.ownsRow w.heap.size 3 1 dv (pick s.dead 12).length (intVals (pick s.dead 12)) ∧ w'.ownsRow w.heap.size 3 1 lv (pick (isLate s) 12).length (intVals (pick (isLate s) 12))))
/-- The operations of one's own, before the next one is taken. -/
theorem of_cons {o : OpM} {r : List OpM} {j : Nat} (hj : o.tx = j) : RunM.of (o :: r) = upd (RunM.of r) j (o :: RunM.of r j) := by
  funext i
  unfold RunM.of
  rw [List.filter_cons]
  by_cases e : i = j
  · subst e; rw [upd_same, if_pos (by simpa using hj)]
  · rw [upd_other _ _ e, if_neg (by simp; omega)]
/-- Where Play stands behind k operations. -/
def PlAt (l : List OpM) (W1 : World) (Tb k : Nat) (W : World) : Prop :=
  ∃ s v, (∀ s', Takes s (l.drop k) s' → Takes start l s') ∧ At W Tb Tb s v ∧ Inv s [] (RunM.of (l.drop k)) (RunM.of l) ∧ Below Tb W1 W
theorem PlAt.next {l : List OpM} {W1 W W' w8 : World} {Tb k : Nat} (hk : k < l.length) {s : S} {v : Nat → Value} (h1 : ∀ s', Takes s (l.drop k) s' → Takes start l s') (h3 : Inv s [] (RunM.of (l.drop k)) (RunM.of l)) (h4 : Below Tb W1 W) (hb : Below W.heap.size W W') (hT : Tb ≤ W.heap.size) {j : Nat} (hj : l[k].tx = j)
    {e : Ending} (hp : Post Tb Tb (Take s l[k]) v W' e w8) : e = .returned (.tuple #[]) ∧ PlAt l W1 Tb (k + 1) w8 := by
  obtain ⟨rfl, s', v', a, b, c⟩ := hp
  rw [List.drop_eq_getElem_cons hk, of_cons hj] at h3
  obtain ⟨i1, _, _⟩ := take_inv a hj h3
  exact ⟨rfl, s', v', fun s'' h => h1 s'' (by rw [List.drop_eq_getElem_cons hk]; exact .cons a h), b, i1, (h4.trans (hb.mono hT)).trans c.below⟩
end TwoM
end
section
open Go.RowKit Go.Lib

open TwoM in
set_option maxRecDepth 20000 in
set_option maxHeartbeats 16000000 in
theorem play_any (l : List OpM) (ao : Option Addr) (cap : Nat) (w : World) (h : OpsAt w ao l) (hf : RunM.Fits l) : Calls Tryz.prog 5 #[.slice ao l.length cap] w (PlayPost l w) := by
  obtain ⟨i0, hi0, hz0, hz1, hz2⟩ := info_parts Tryz.infoIntD
  have H := box h
  have HR := box (fun W (hb : Below w.heap.size w W) => runCheck_any l ao cap W (h.below hb (Nat.le_refl _)) hf)
  obtain ⟨c, HC⟩ : ∃ x, Box (RunM.check l = x) := ⟨_, ⟨rfl⟩⟩
  obtain ⟨N, HN⟩ : ∃ x, Box (l.length = x) := ⟨_, ⟨rfl⟩⟩
  have HBad : Box (∀ w', Below w.heap.size w w' → c ≠ 0 → PlayPost l w (.returned (.tuple #[.agg #[.slice none 0 0, .slice none 0 0, .slice none 0 0], .int .i64 c])) w') := ⟨fun w' hb hc => ⟨hb, Or.inl ⟨by rw [HC.out]; exact hc, by rw [HC.out]⟩⟩⟩
  have HGood : Box (c = 0 → ∀ w' s rv dv lv, Takes TwoM.start l s → w'.ownsRow w.heap.size 30 3 rv s.out.length (opVals s.out) → w'.ownsRow w.heap.size 3 1 dv (pick s.dead 12).length (intVals (pick s.dead 12)) → w'.ownsRow w.heap.size 3 1 lv (pick (isLate s) 12).length (intVals (pick (isLate s) 12)) → Below w.heap.size w w' → PlayPost l w (.returned (.tuple #[.agg #[rv, dv, lv], .int .i64 0])) w') := ⟨fun hc w' s rv dv lv h1 h2 h3 h4 h5 => ⟨h5, Or.inr ⟨by rw [HC.out]; exact hc, s, rv, dv, lv, h1, rfl, h2, h3, h4⟩⟩⟩
  obtain ⟨PP, HPP⟩ : ∃ P, Box (PlayPost l w = P) := ⟨_, ⟨rfl⟩⟩
  rw [HC.out, HN.out] at HR
  rw [HN.out]
  rw [HPP.out] at HBad HGood ⊢
  clear h hf
  have hal := Below.alloc (Below.refl w.heap.size w) (Nat.le_refl _)
  go_enter Tryz.func5, Tryz.ntmps5
  go_wp2_with fail
  refine (HR.out _ (hal _)).mono ?_
  rintro e w1 ⟨rfl, hb1⟩
  have HRb := box ((Blk.new' (w := w) (n := w.heap.size) rfl [.slice none 0 0, .slice none 0 0, .slice none 0 0] 25).after hb1)
  have p0 := HRb.out.cell (i := 0) rfl
  have p1 := HRb.out.cell (i := 1) rfl
  have p2 := HRb.out.cell (i := 2) rfl
  have f0 := HRb.out.frozen 0
  have f1 := HRb.out.frozen 1
  have f2 := HRb.out.frozen 2
  have hPl := HRb.out.lt
  have HB1 : Box (Below w.heap.size w w1) := ⟨(hal _).trans (hb1.mono (by simp))⟩
  clear hb1 hal
  by_cases hc : c = 0
  case neg =>
    have hd : (c != 0) = true := by simpa using hc
    have HBB := box (HBad.out · · hc)
    clear hc
    go_wp2_with fail
    exact bodyPost_ret (v := .tuple #[.agg #[.slice none 0 0, .slice none 0 0, .slice none 0 0], .int .i64 c]) (by simp [results, Tryz.results5, go_sem, p0, p1, p2]) rfl (HBB.out _ (((HB1.out.setCell (Nat.le_refl _) _).setCell (Nat.le_refl _) _).setCell (Nat.le_refl _) _))
  have HGood := box (HGood.out hc)
  have HIn : Box (Inv TwoM.start [] (RunM.of l) (RunM.of l) ∧ total (RunM.of l) ≤ 200 ∧ (∀ k, (hk : k < l.length) → RunM.bad l[k] = 0 ∧ ∃ j : Nat, l[k].tx = j)) := ⟨by
    obtain ⟨c1, c2, c3⟩ := (RunM.check_iff l).1 (by rw [HC.out]; exact hc)
    refine ⟨inv_start c2 c3, ?_, fun k hk => ?_⟩
    · unfold total
      rw [of_sum l (fun o ho => ⟨o.tx.toNat, by have := RunM.bad_zero (c2 o ho); omega⟩)]
      exact c1
    · have h1 := c2 _ (List.getElem_mem hk)
      have h2 := RunM.bad_zero h1
      exact ⟨h1, l[k].tx.toNat, by omega⟩⟩
  have hN200 : N ≤ 200 := by
    obtain ⟨c1, _, _⟩ := (RunM.check_iff l).1 (by rw [HC.out]; exact hc)
    rw [← HN.out]; exact c1
  clear HR HC HBad
  subst hc
  obtain ⟨Tb, HTb⟩ : ∃ x, Box (w1.heap.size = x) := ⟨_, ⟨rfl⟩⟩
  go_wp2_with fail
  rw [HTb.out]
  go_loopw [18] (fun t18 wr => ∃ k : Nat, k ≤ N ∧ t18 = .int .i64 (k : Int) ∧ Box (PlAt l w1 Tb k wr)) (fun t18 _ => N - (RowKit.intOf t18).toNat)
  case atStart =>
    refine ⟨0, Nat.zero_le _, rfl, ⟨⟨TwoM.start, fun _ => .slice none 0 0, fun s' h => by rwa [List.drop_zero] at h, ?_, by rw [List.drop_zero]; exact HIn.out.1, ?_⟩⟩⟩
    · rw [← HTb.out]
      exact ⟨_, _, _, _, two_start rfl (fun _ => rfl) (fun _ => rfl) rfl (Blk.new w1 (Tab 26 fun c => if c < 13 then .slice none 0 0 else if c < 25 then .bool false else .slice none 0 0) 68)⟩
    · rw [← HTb.out]; exact (Below.refl _ _).alloc (Nat.le_refl _) _
  case round =>
    obtain ⟨k, hk, rfl, HPl⟩ := hrel
    by_cases hlt : k < N
    · have hkl : k < l.length := by rw [HN.out]; exact hlt
      have HBr : Box (Below w.heap.size w wr) := ⟨by
        obtain ⟨_, _, _, _, _, hb⟩ := HPl.out
        rw [← HTb.out] at hb
        exact HB1.out.trans (hb.mono (Nat.le_of_lt hPl))⟩
      obtain ⟨b, off, rfl, hb, hrow⟩ := ((H.out.below HBr.out (Nat.le_refl _)).resolve_left (by intro h; rw [h] at hkl; simp at hkl))
      obtain ⟨hc0, hc1, hc2⟩ := hrow k hkl
      have HCall : Box (Calls Tryz.prog 25 #[.pointer (some ⟨Tb, 0, none⟩), .agg #[.int .i64 l[k].tx, .int .i64 l[k].kind, .int .i64 l[k].item]] (wr.alloc (.cells #[.int .i64 l[k].tx, .int .i64 l[k].kind, .int .i64 l[k].item] 30)) fun e w8 => e = .returned (.tuple #[]) ∧ PlAt l w1 Tb (k + 1) w8) := ⟨by
        obtain ⟨s, v, h1, h2, h3, h4⟩ := HPl.out
        obtain ⟨_, hT, hbad⟩ := HIn.out
        obtain ⟨hb0, j, hj⟩ := hbad k hkl
        have ha := (Below.refl wr.heap.size wr).alloc (Nat.le_refl _) (.cells #[.int .i64 l[k].tx, .int .i64 l[k].kind, .int .i64 l[k].item] 30)
        have hTw : Tb ≤ wr.heap.size := by obtain ⟨_, _, _, _, h⟩ := h2; exact h.bw
        have h3' := h3
        rw [List.drop_eq_getElem_cons hkl, of_cons hj] at h3'
        exact (take_is Tb Tb _ s v l[k] j [] _ _ (h2.after ha) hj hb0 h3' hT).mono fun e w8 hp => PlAt.next hkl h1 h3 h4 ha hTw hj hp⟩
      generalize l[k] = o at *
      obtain ⟨tx, kind, item⟩ := o
      simp only at hc0 hc1 hc2 HCall
      clear hrow hb HPl hkl
      go_wp2_with fail
      refine HCall.out.mono ?_
      rintro e w8 ⟨rfl, hp8⟩
      have HP8 := box hp8
      clear HCall hp8 hc0 hc1 hc2
      go_wp2_with fail
      go_roundw
      case rel => exact ⟨k + 1, hlt, by go_num, HP8⟩
      case measure => simp [RowKit.intOf]; omega
    · obtain rfl : k = N := by omega
      obtain ⟨WR, HWR⟩ : ∃ x, Box (wr = x) := ⟨_, ⟨rfl⟩⟩
      rw [HWR.out] at HPl ⊢
      obtain ⟨s, v, h1, ⟨la, lc, lo, W0, h2⟩, h3, h4⟩ := HPl.out
      have HTk : Box (Takes TwoM.start l s) := ⟨h1 s (by rw [List.drop_of_length_le (by rw [HN.out]; omega)]; exact .nil)⟩
      have HW := box h2
      have HB2 : Box (Below w.heap.size w WR) := ⟨by
        rw [← HTb.out] at h4
        exact HB1.out.trans (h4.mono (Nat.le_of_lt hPl))⟩
      have hTB : w.heap.size < Tb := by rw [← HTb.out]; exact hPl
      have HOw : Box (WR.ownsRow Tb 30 3 (v 12) s.out.length (opVals s.out)) := ⟨h2.out⟩
      have HRz : Box (Blk WR w.heap.size 25 [.slice none 0 0, .slice none 0 0, .slice none 0 0]) := ⟨HRb.out.below h4 hTB⟩
      have c25 := h2.cOut
      have hTl := h2.tlt
      obtain ⟨oa, oc, hv12, _, _, _, _⟩ := OpsAt.own h2.out
      obtain ⟨OL, HOL⟩ : ∃ x, Box (s.out.length = x) := ⟨_, ⟨rfl⟩⟩
      rw [hv12] at c25 HOw
      rw [HOL.out] at c25 HOw
      clear hv12
      obtain ⟨P, HP⟩ : ∃ x, Box (WR.heap.size = x) := ⟨_, ⟨rfl⟩⟩
      have hTP : Tb < P := by rw [← HP.out]; exact hTl
      have HGG := box (HGood.out True.intro)
      have HL1 := box (fun i (hi : i < 12) => OpsAt.own (h2.late hi))
      have HCD := box (fun i (hi : i < 12) (wx : World) (hb : Below WR.heap.size WR wx) => (h2.after hb).cDead hi)
      have HCL := box (fun i (hi : i < 12) (wx : World) (hb : Below WR.heap.size WR wx) => (h2.after hb).cLate hi)
      clear h1 h2 h3 h4 HPl HGood HIn HTb
      go_wp2_with fail
      rw [HP.out]
      go_loopw [28] (fun t28 w2 => ∃ (k : Nat) (dv lv : Value), k ≤ 12 ∧ t28 = .int .i64 (k : Int) ∧ Box (PlW WR P (.slice oa OL oc) (pick s.dead k) (pick (isLate s) k) dv lv w2)) (fun t28 _ => 12 - (RowKit.intOf t28).toNat)
      case atStart => exact ⟨0, .slice none 0 0, .slice none 0 0, by omega, rfl, ⟨HP.out, by rw [← HP.out]; exact Blk.new _ _ _, World.ownsRow_nil _ _ _ _, World.ownsRow_nil _ _ _ _, fun b hb => (by cases hb), by rw [← HP.out]; exact (Below.refl _ _).alloc (Nat.le_refl _) _⟩⟩
      case round =>
        obtain ⟨k, dv, lv, hk, rfl, HQ⟩ := hrel
        have q0 := HQ.out.blk.cell (i := 0) rfl
        have q1 := HQ.out.blk.cell (i := 1) rfl
        have q2 := HQ.out.blk.cell (i := 2) rfl
        have hPw := HQ.out.blk.lt
        by_cases hlt : k < 12
        · have hbz := HQ.out.below
          rw [← HQ.out.size] at hbz
          have d1 := HCD.out k hlt wr hbz
          have d2 := HCL.out k hlt wr hbz
          obtain ⟨ka, kc, hkv, _, _, _, _⟩ := HL1.out k hlt
          obtain ⟨LL, HLL⟩ : ∃ x, Box ((s.late k).length = x) := ⟨_, ⟨rfl⟩⟩
          rw [hkv, HLL.out] at d2
          obtain ⟨DD, HDD⟩ : ∃ x, Box (s.dead k = x) := ⟨_, ⟨rfl⟩⟩
          rw [HDD.out] at d1
          obtain ⟨da, dc, rfl, _, _, _, _⟩ := IntsAt.own HQ.out.own1
          obtain ⟨ma, mc, rfl, _, _, _, _⟩ := IntsAt.own HQ.out.own2
          obtain ⟨DL, HDL⟩ : ∃ x, Box ((pick s.dead k).length = x) := ⟨_, ⟨rfl⟩⟩
          obtain ⟨ML, HML⟩ : ∃ x, Box ((pick (isLate s) k).length = x) := ⟨_, ⟨rfl⟩⟩
          rw [HDL.out] at q1 HQ
          rw [HML.out] at q2 HQ
          have hDL : DL ≤ k := by have := pick_len s.dead k; have := HDL.out; omega
          have hML : ML ≤ k := by have := pick_len (isLate s) k; have := HML.out; omega
          have HO1 : Box (wr.ownsRow (P + 1) 3 1 (.slice da DL dc) DL (intVals (pick s.dead k))) := ⟨by have h := HQ.out.own1; rwa [HDL.out] at h⟩
          have HDb : Box (∀ wx : World, Below P wr wx → wx.cell? ⟨Tb, 1 + k, none⟩ = some (.slice ka LL kc) ∧ Tb < wx.heap.size) := ⟨fun wx hb => ⟨(hb.cell (p := ⟨Tb, 1 + k, none⟩) hTP).trans d2, Nat.lt_of_lt_of_le (Nat.lt_trans hTP hPw) hb.size⟩⟩
          have hTw : Tb < wr.heap.size := Nat.lt_trans hTP hPw
          have HSD := box (pick_succ s.dead k)
          have HSL := box (pick_succ (isLate s) k)
          clear hbz hkv
          go_upto_if 34 with (fail)
          go_cut [28] from 28 to 53 (fun s28 wx => s28 = .int .i64 (k : Int) ∧ ∃ da dn dc, Box (Below P wr wx ∧ dn ≤ 12 ∧ (pick s.dead (k + 1)).length = dn ∧ PlW WR P (.slice oa OL oc) (pick s.dead (k + 1)) (pick (isLate s) k) (.slice da dn dc) (.slice ma ML mc) wx))
          case first => as_aux_lemma =>
            cases DD with
            | false =>
              go_wp2_with fail
              go_meet
              have e : pick s.dead (k + 1) = pick s.dead k := by rw [HSD.out, HDD.out]; simp
              exact ⟨rfl, da, DL, dc, ⟨Below.refl _ _, by omega, by rw [e]; exact HDL.out, by rw [e]; exact HQ.out⟩⟩
            | true =>
              have hown1 := HO1.out.alloc (.cells #[.int .i64 (k : Int)] 3)
              go_wp2_with (at_builtin; go_must (refine wpList_append_lies _ rfl _ _ 23 rfl (P + 1) 3 i0 _ 1 8 Tryz.underlying23 hi0 hz0 hz1 hz2 rfl (by decide) _ _ _ rfl hown1 ⟨wr.heap.size, 0, none⟩ 1 1 [.int .i64 (k : Int)] rfl rfl (cells_new wr [.int .i64 (k : Int)] 3) (by simp [Value.oneCell']) (by decide) (by unfold maxLen; omega) (by omega) (by simp; omega) (wr.heap.size + 1) (by simp) ?_))
              intro gg gcap w7 hown7 hgrow7 hat7 hlt7
              have hb4 : Below wr.heap.size wr (wr.alloc (.cells #[.int .i64 (k : Int)] 3)) := (Below.refl _ _).alloc (Nat.le_refl _) _
              have hG7 : wr.grownBy w7 (Value.slice da DL dc).ownBlock := ⟨hgrow7.os.trans hb4.os, hgrow7.tape.trans hb4.tape, hgrow7.output.trans hb4.output, Nat.le_trans hb4.size hgrow7.size, fun b h1 hne => (hgrow7.block b (Nat.lt_of_lt_of_le h1 hb4.size) hne).trans (hb4.block b h1)⟩
              have HBQ : Box (∀ u, Below P wr (w7.setCell ⟨P, 1, none⟩ u)) := ⟨fun u => (((Below.refl P wr).alloc (Nat.le_of_lt hPw) _).grown hgrow7 (by simp; omega) (fun b hb => by have := (HO1.out.lt b hb).1; omega)).setCell (Nat.le_refl _) _⟩
              have HS5 := box (HQ.out.push1 (g := gg) (gc := gcap) (k := (k : Int)) (by rw [HDL.out]; exact hown7) hG7 (hat7.imp id (fun e => by omega)))
              rw [HDL.out] at HS5
              have z0 := HS5.out.1.cell (i := 0) rfl
              have z1 := HS5.out.1.cell (i := 1) rfl
              have z2 := HS5.out.1.cell (i := 2) rfl
              have y1 := HS5.out.1.frozen 1
              have hP7 := HS5.out.1.lt
              clear hown7 hgrow7 hat7 hb4 hG7 hown1
              go_wp2_with fail
              go_meet
              have e : pick s.dead (k + 1) = pick s.dead k ++ [(k : Int)] := by rw [HSD.out, HDD.out]; simp
              exact ⟨rfl, some ⟨gg, 0, none⟩, DL + 1, gcap, ⟨HBQ.out _, by omega, by rw [e, List.length_append, HDL.out]; rfl, by rw [e]; exact HS5.out.2⟩⟩
          case rest =>
            obtain ⟨rfl, da', dn, dc', HX⟩ := hcut
            have z0 := HX.out.2.2.2.blk.cell (i := 0) rfl
            have z1 := HX.out.2.2.2.blk.cell (i := 1) rfl
            have z2 := HX.out.2.2.2.blk.cell (i := 2) rfl
            have hPc := HX.out.2.2.2.blk.lt
            obtain ⟨d3, hT3⟩ := HDb.out wc HX.out.1
            have HO2 : Box (wc.ownsRow (P + 1) 3 1 (.slice ma ML mc) ML (intVals (pick (isLate s) k))) := ⟨by have h := HX.out.2.2.2.own2; rwa [HML.out] at h⟩
            have hdn := HX.out.2.1
            clear d1 d2 q0 q1 q2
            by_cases hL : 0 < LL
            · have hLi : (0 : Int) < (LL : Int) := by omega
              have dL : decide ((0 : Int) < (LL : Int)) = true := decide_eq_true hLi
              have HLt : Box (isLate s k = true) := ⟨by unfold isLate; rw [HLL.out]; exact decide_eq_true hL⟩
              have hown1 := HO2.out.alloc (.cells #[.int .i64 (k : Int)] 3)
              go_wp2_with (at_builtin; go_must (refine wpList_append_lies _ rfl _ _ 23 rfl (P + 1) 3 i0 _ 1 8 Tryz.underlying23 hi0 hz0 hz1 hz2 rfl (by decide) _ _ _ rfl hown1 ⟨wc.heap.size, 0, none⟩ 1 1 [.int .i64 (k : Int)] rfl rfl (cells_new wc [.int .i64 (k : Int)] 3) (by simp [Value.oneCell']) (by decide) (by unfold maxLen; omega) (by omega) (by simp; omega) (wc.heap.size + 1) (by simp) ?_))
              intro gg gcap w7 hown7 hgrow7 hat7 hlt7
              have hb4 : Below wc.heap.size wc (wc.alloc (.cells #[.int .i64 (k : Int)] 3)) := (Below.refl _ _).alloc (Nat.le_refl _) _
              have hG7 : wc.grownBy w7 (Value.slice ma ML mc).ownBlock := ⟨hgrow7.os.trans hb4.os, hgrow7.tape.trans hb4.tape, hgrow7.output.trans hb4.output, Nat.le_trans hb4.size hgrow7.size, fun b h1 hne => (hgrow7.block b (Nat.lt_of_lt_of_le h1 hb4.size) hne).trans (hb4.block b h1)⟩
              have HS5 := box (HX.out.2.2.2.push2 (g := gg) (gc := gcap) (k := (k : Int)) (by rw [HML.out]; exact hown7) hG7 (hat7.imp id (fun e => by omega)))
              rw [HML.out] at HS5
              have z0 := HS5.out.1.cell (i := 0) rfl
              have z1 := HS5.out.1.cell (i := 1) rfl
              have z2 := HS5.out.1.cell (i := 2) rfl
              have y1 := HS5.out.1.frozen 2
              have hP7 := HS5.out.1.lt
              clear hown7 hgrow7 hat7 hb4 hG7 hown1
              go_wp2_with fail
              have e : pick (isLate s) (k + 1) = pick (isLate s) k ++ [(k : Int)] := by rw [HSL.out, HLt.out]; simp
              have HNx : Box (PlW WR P (.slice oa OL oc) (pick s.dead (k + 1)) (pick (isLate s) (k + 1)) (.slice da' dn dc') (.slice (some ⟨gg, 0, none⟩) (ML + 1) gcap) (w7.setCell ⟨P, 2, none⟩ (.slice (some ⟨gg, 0, none⟩) (ML + 1) gcap))) := ⟨by rw [e]; exact HS5.out.2⟩
              clear e
              go_roundw
              case rel => exact ⟨k + 1, _, _, hlt, by go_num, HNx⟩
              case measure => simp [RowKit.intOf]; omega
            · have hLi : ¬ (0 : Int) < (LL : Int) := by omega
              have dL : decide ((0 : Int) < (LL : Int)) = false := decide_eq_false hLi
              have HLt : Box (isLate s k = false) := ⟨by unfold isLate; rw [HLL.out]; exact decide_eq_false hL⟩
              go_wp2_with fail
              have e : pick (isLate s) (k + 1) = pick (isLate s) k := by rw [HSL.out, HLt.out]; simp
              have HNx : Box (PlW WR P (.slice oa OL oc) (pick s.dead (k + 1)) (pick (isLate s) (k + 1)) (.slice da' dn dc') (.slice ma ML mc) wc) := ⟨by rw [e]; exact HX.out.2.2.2⟩
              clear e
              go_roundw
              case rel => exact ⟨k + 1, _, _, hlt, by go_num, HNx⟩
              case measure => simp [RowKit.intOf]; omega
        · obtain rfl : k = 12 := by omega
          have hbz := HQ.out.below
          rw [← HQ.out.size] at hbz
          have HRy := box (HRz.out.after hbz)
          have e0 := HRy.out.cell (i := 0) rfl
          have e1 := HRy.out.cell (i := 1) rfl
          have e2 := HRy.out.cell (i := 2) rfl
          have g0 := HRy.out.frozen 0
          have g1 := HRy.out.frozen 1
          have g2 := HRy.out.frozen 2
          have hlz := HRy.out.lt
          have HFin : Box (∀ u0 u1 u2, PP (.returned (.tuple #[.agg #[.slice oa OL oc, dv, lv], .int .i64 0])) (((wr.setCell ⟨w.heap.size, 0, none⟩ u0).setCell ⟨w.heap.size, 1, none⟩ u1).setCell ⟨w.heap.size, 2, none⟩ u2)) := ⟨fun u0 u1 u2 => by
            have o1 : wr.ownsRow Tb 30 3 (.slice oa OL oc) s.out.length (opVals s.out) := by rw [HOL.out]; exact ownsRow_below HOw.out hbz
            have o2 := HQ.out.own1
            have o3 := HQ.out.own2
            have n1 : (Value.slice oa OL oc).ownBlock ≠ some w.heap.size := fun e => by have := (o1.lt _ e).1; omega
            have n2 : dv.ownBlock ≠ some w.heap.size := fun e => by have := (o2.lt _ e).1; omega
            have n3 : lv.ownBlock ≠ some w.heap.size := fun e => by have := (o3.lt _ e).1; omega
            refine HGG.out _ s _ _ _ HTk.out ?_ ?_ ?_ ?_
            · exact ownsRow_setCell_other (ownsRow_setCell_other (ownsRow_setCell_other (ownsRow_mono o1 (Nat.le_of_lt hTB)) n1 _) n1 _) n1 _
            · exact ownsRow_setCell_other (ownsRow_setCell_other (ownsRow_setCell_other (ownsRow_mono o2 (by omega)) n2 _) n2 _) n2 _
            · exact ownsRow_setCell_other (ownsRow_setCell_other (ownsRow_setCell_other (ownsRow_mono o3 (by omega)) n3 _) n3 _) n3 _
            · exact (((HB2.out.trans (hbz.mono HB2.out.size)).setCell (Nat.le_refl _) _).setCell (Nat.le_refl _) _).setCell (Nat.le_refl _) _⟩
          obtain ⟨da, dc, rfl, _, _, _, _⟩ := IntsAt.own HQ.out.own1
          obtain ⟨ma, mc, rfl, _, _, _, _⟩ := IntsAt.own HQ.out.own2
          obtain ⟨DL, HDL⟩ : ∃ x, Box ((pick s.dead 12).length = x) := ⟨_, ⟨rfl⟩⟩
          obtain ⟨ML, HML⟩ : ∃ x, Box ((pick (isLate s) 12).length = x) := ⟨_, ⟨rfl⟩⟩
          rw [HDL.out] at q1 HFin
          rw [HML.out] at q2 HFin
          clear hbz p0 p1 p2 f0 f1 f2
          go_wp2_with fail
          exact bodyPost_ret (v := .tuple #[.agg #[.slice oa OL oc, .slice da DL dc, .slice ma ML mc], .int .i64 0]) (by simp [results, Tryz.results5, go_sem, e0, e1, e2]) rfl (HFin.out _ _ _)
end
section
open Go.RowKit Go.Lib

namespace TwoM
/-- What Play leaves, opened. -/
def PlayO (l : List OpM) (w : World) (e : Ending) (w' : World) : Prop :=
  Below w.heap.size w w' ∧ ((RunM.check l ≠ 0 ∧ e = .returned (.tuple #[.agg #[.slice none 0 0, .slice none 0 0, .slice none 0 0], .int .i64 (RunM.check l)])) ∨
    (RunM.check l = 0 ∧ ∃ (s : S) (ao bo co : Option Addr) (c1 c2 c3 : Nat), Takes TwoM.start l s ∧ Inv s [] (fun _ => []) (RunM.of l) ∧ Acyc s.locks ∧
      e = .returned (.tuple #[.agg #[.slice ao s.out.length c1, .slice bo (pick s.dead 12).length c2, .slice co (pick (isLate s) 12).length c3], .int .i64 0]) ∧
      OpsAt w' ao s.out ∧ (ao = none → c1 = 0) ∧ IntsAt w' bo (pick s.dead 12) ∧ IntsAt w' co (pick (isLate s) 12)))
theorem acyc_start : Acyc TwoM.start.locks := acyc_of (VicM.Vic.done fun k hp => by
  obtain ⟨c, hc⟩ := VicM.path_out hp
  rw [GrM.E_iff] at hc
  have : LkM.waits [] = [] := by decide
  change _ ∈ LkM.waits [] at hc
  rw [this] at hc
  cases hc)
theorem takes_known {l : List OpM} (hc : RunM.check l = 0) {s : S} (h : Takes TwoM.start l s) : Inv s [] (fun _ => []) (RunM.of l) ∧ Acyc s.locks := by
  obtain ⟨_, c2, c3⟩ := (RunM.check_iff l).1 hc
  exact run_inv h c2 (inv_start c2 c3) acyc_start
end TwoM
open TwoM in
theorem play_o (l : List OpM) (ao : Option Addr) (cap : Nat) (w : World) (h : OpsAt w ao l) (hf : RunM.Fits l) :
    Calls Tryz.prog 5 #[.slice ao l.length cap] w (PlayO l w) := by
  refine (play_any l ao cap w h hf).mono ?_
  rintro e w' ⟨hb, ⟨hc, rfl⟩ | ⟨hc, s, v1, v2, v3, ht, rfl, h1, h2, h3⟩⟩
  · exact ⟨hb, Or.inl ⟨hc, rfl⟩⟩
  · obtain ⟨a1, c1, rfl, _, o1, n1, _⟩ := OpsAt.own h1
    obtain ⟨a2, c2, rfl, _, o2, _⟩ := IntsAt.own h2
    obtain ⟨a3, c3, rfl, _, o3, _⟩ := IntsAt.own h3
    obtain ⟨i1, i2⟩ := takes_known hc ht
    exact ⟨hb, Or.inr ⟨hc, s, a1, a2, a3, c1, c2, c3, ht, i1, i2, rfl, o1, n1, o2, o3⟩⟩
end
end
end Go.Proofs.YtnnkejolfhhmlaaGreat
