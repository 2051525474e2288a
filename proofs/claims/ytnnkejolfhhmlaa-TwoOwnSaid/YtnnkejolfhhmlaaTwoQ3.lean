/- two.Play: free and take walked. -/
import Derived.Test.YtnnkejolfhhmlaaTwoQ2
import Derived.Test.YtnnkejolfhhmlaaLkWaits
import Derived.Test.YtnnkejolfhhmlaaVic
import Derived.Deep.RegionHeld3
import Derived.Deep.LoopGhost
import Derived.Deep.QuietTactic
import Derived.BigQuiet
import Derived.BigRegion
namespace Go.Proofs.Ytnnkejolfhhmlaa
open Go.RowKit Go.Lib

namespace TwoM
open LkM
section
variable {V w1 wx W0 : World} {B Tb lc lo X OL oc j : Nat} {s : S} {v : Nat → Value} {la oa : Option Addr} {C : List Value}
theorem TwoW.rowFacts (h : TwoW V B Tb s v la lc lo W0) {i : Nat} (hi : i < 13) {R : Value} (hv : v i = R) (hX : Blk V X 30 C) (hne : R.ownBlock ≠ some X) (hg : V.grownBy wx R.ownBlock) {c : Nat} (hc : V.cell? ⟨Tb, c, none⟩ = some R) :
    wx.cell? ⟨Tb, c, none⟩ = some R ∧ wx.frozen? ⟨Tb, c, none⟩ = false ∧ Tb < wx.heap.size ∧ Blk wx X 30 C := by
  have hT : R.ownBlock ≠ some Tb := by rw [← hv]; exact h.rne hi
  have hb := h.blk.grown hg hT
  exact ⟨(World.cell?_of_block (a := ⟨Tb, c, none⟩) (hg.block Tb h.tlt (fun e => hT e.symm))).trans hc, hb.frozen _, hb.lt, hX.grown hg hne⟩
theorem TwoW.pushOut (h : TwoW V B Tb s v la lc lo W0) (hv : v 12 = .slice oa OL oc) (hOL : s.out.length = OL) {o : OpM} {g gc : Nat} (ho : w1.ownsRow B 30 3 (.slice (some ⟨g, 0, none⟩) (OL + 1) gc) (OL + 1) (opVals s.out ++ [.int .i64 o.tx, .int .i64 o.kind, .int .i64 o.item]))
    (hg : V.grownBy w1 (Value.slice oa OL oc).ownBlock) (hat : (Value.slice oa OL oc).ownBlock = some g ∨ V.heap.size ≤ g) :
    TwoW (w1.setCell ⟨Tb, 25, none⟩ (.slice (some ⟨g, 0, none⟩) (OL + 1) gc)) B Tb { s with out := s.out ++ [o] } (upd v 12 (.slice (some ⟨g, 0, none⟩) (OL + 1) gc)) la lc lo W0 ∧ Only B Tb v (upd v 12 (.slice (some ⟨g, 0, none⟩) (OL + 1) gc)) V (w1.setCell ⟨Tb, 25, none⟩ (.slice (some ⟨g, 0, none⟩) (OL + 1) gc)) :=
  h.setRow (s' := { s with out := s.out ++ [o] }) (i := 12) (by omega) (l := s.out ++ [o]) (by rw [List.length_append, hOL, opVals_append]; exact ho) (by rw [hv]; exact hg) (fun b hb => by
    have e : g = b := by simpa [Value.ownBlock] using hb
    subst e
    rw [hv]; exact hat) (rows_out rfl rfl) rfl (fun _ _ => rfl) 25 rfl
theorem TwoW.pushLate (h : TwoW V B Tb s v la lc lo W0) (hj : j < 12) (hv : v j = .slice oa OL oc) (hOL : (s.late j).length = OL) {o : OpM} {g gc : Nat} (ho : w1.ownsRow B 30 3 (.slice (some ⟨g, 0, none⟩) (OL + 1) gc) (OL + 1) (opVals (s.late j) ++ [.int .i64 o.tx, .int .i64 o.kind, .int .i64 o.item]))
    (hg : V.grownBy w1 (Value.slice oa OL oc).ownBlock) (hat : (Value.slice oa OL oc).ownBlock = some g ∨ V.heap.size ≤ g) :
    TwoW (w1.setCell ⟨Tb, 1 + j, none⟩ (.slice (some ⟨g, 0, none⟩) (OL + 1) gc)) B Tb { s with late := upd s.late j (s.late j ++ [o]) } (upd v j (.slice (some ⟨g, 0, none⟩) (OL + 1) gc)) la lc lo W0 ∧ Only B Tb v (upd v j (.slice (some ⟨g, 0, none⟩) (OL + 1) gc)) V (w1.setCell ⟨Tb, 1 + j, none⟩ (.slice (some ⟨g, 0, none⟩) (OL + 1) gc)) :=
  h.setRow (s' := { s with late := upd s.late j (s.late j ++ [o]) }) (i := j) (by omega) (l := s.late j ++ [o]) (by rw [List.length_append, hOL, opVals_append]; exact ho) (by rw [hv]; exact hg) (fun b hb => by
    have e : g = b := by simpa [Value.ownBlock] using hb
    subst e
    rw [hv]; exact hat) (rows_late hj rfl rfl) rfl (fun _ _ => rfl) (1 + j) (by rw [if_neg (by omega)])
end
/-- The edges that Waits tells are right for Victims. -/
theorem waits_check (t : List LiM) : GrM.check 12 (LkM.waits t) = 0 := by
  unfold GrM.check
  have hl := LkM.edgesOf_len (LkM.markT (fun _ _ => false) t) 12
  rw [if_neg (by omega), if_neg (by unfold LkM.waits; omega), if_pos]
  unfold GrM.formOk
  rw [List.all_eq_true]
  intro e he
  unfold LkM.waits at he
  obtain ⟨a, b, rfl, h1, h2, _⟩ := mem_edgesOf.1 he
  exact decide_eq_true ⟨by show (0 : Int) ≤ a; omega, by show (a : Int) < 12; omega, by show (0 : Int) ≤ b; omega, by show (b : Int) < 12; omega⟩
/-- The last of the victims' list is the greatest. -/
theorem last_of {out : List Nat} {r : List Int} (hp : r.Perm (GrM.ints out)) (hs : r.Pairwise (· ≤ ·)) (hr : 0 < r.length) : ∃ k : Nat, r[r.length - 1] = (k : Int) ∧ Last out k := by
  have hm : r[r.length - 1] ∈ GrM.ints out := hp.mem_iff.1 (List.getElem_mem _)
  unfold GrM.ints at hm
  obtain ⟨k, hk, e⟩ := List.mem_map.1 hm
  refine ⟨k, e.symm, hk, fun q hq => ?_⟩
  have hq' : (q : Int) ∈ r := hp.mem_iff.2 (List.mem_map.2 ⟨q, hq, rfl⟩)
  obtain ⟨i, hi, e2⟩ := List.mem_iff_getElem.1 hq'
  by_cases h : i = r.length - 1
  · subst h; omega
  · have := List.pairwise_iff_getElem.1 hs i (r.length - 1) hi (by omega) (by omega)
    omega
end TwoM
open TwoM in
set_option maxRecDepth 20000 in
set_option maxHeartbeats 16000000 in
theorem tfree_any (m : Nat) (hDr : DropSpec m) : FreeSpec (m + 1) := by
  intro B Tb w s v G p h hAt hI ht hm
  have HDr := box hDr; have HTo := box ht
  obtain ⟨i0, hi0, hz0, hz1, hz2⟩ := info_parts Try.infoOpQ
  have HPost : Box (∀ e w', e = Ending.returned (.tuple #[]) → (∃ s' v', Free s s' ∧ At w' B Tb s' v' ∧ Only B Tb v v' w w') → Post B Tb (Free s) v w e w') := ⟨fun e w' h1 h2 => ⟨h1, h2⟩⟩
  have hBw : B ≤ w.heap.size := by obtain ⟨_, _, _, _, h⟩ := hAt; exact h.bw
  have HSt : Box (∃ s' v', (∀ s'', Free s' s'' → Free s s'') ∧ At w B Tb s' v' ∧ Only B Tb v v' w w ∧ Inv s' G p h ∧ lates s' = lates s) := ⟨s, v, fun _ h => h, hAt, Only.refl _ _ _ _, hI, rfl⟩
  obtain ⟨PP, HPP⟩ : ∃ P, Box (Post B Tb (Free s) v w = P) := ⟨_, ⟨rfl⟩⟩
  rw [HPP.out] at HPost ⊢
  obtain ⟨L0, HL0⟩ : ∃ x, Box (lates s = x) := ⟨_, ⟨rfl⟩⟩
  rw [HL0.out] at HSt hm
  clear hDr ht hI hAt
  go_enter Try.func20, Try.ntmps20
  go_wp2_with fail
  go_loopg [] L0 (fun f wr => Box (f ≤ m + 1 ∧ ∃ s' v', (∀ s'', Free s' s'' → Free s s'') ∧ At wr B Tb s' v' ∧ Only B Tb v v' w wr ∧ Inv s' G p h ∧ lates s' = f))
  case atStart => exact ⟨hm, HSt.out⟩
  case round =>
    clear HSt
    obtain ⟨hf1, s', v', hFr, hAt', hOn, hI', hlf⟩ := hrel.out
    clear hrel
    obtain ⟨la, lc, lo, W0, hW⟩ := hAt'
    have HW := box hW
    have c0 := hW.cLocks
    have hTl := hW.tlt
    have hwt := waits_any s'.locks la lc lo wr hW.locks hI'.good.small
    have HBr : Box (B ≤ wr.heap.size) := ⟨hW.bw⟩
    have HFr := box hFr; have HOn := box hOn; have HI' := box hI'; have HLf := box hlf
    obtain ⟨TL, HTL⟩ : ∃ x, Box (s'.locks.length = x) := ⟨_, ⟨rfl⟩⟩
    rw [HTL.out] at hwt c0
    have HWt := box hwt
    clear hwt hW hFr hOn hI' hlf
    go_wp2_with fail
    refine HWt.out.mono ?_
    clear HWt c0
    rintro e w1 ⟨hb1, ⟨h1, _⟩ | ⟨_, ev, rfl, hev⟩⟩
    · exact absurd (LkM.check_iff.2 HI'.out.good) h1
    obtain ⟨ea, ec, rfl, _, heg, henil, _⟩ := EgsAt.own hev
    have hwl : (LkM.waits s'.locks).length ≤ 144 := by have := LkM.edgesOf_len (LkM.markT (fun _ _ => false) s'.locks) 12; unfold LkM.waits; omega
    have hvc := victims_any 12 (LkM.waits s'.locks) ea ec w1 heg henil (by omega)
    have HCk := box (TwoM.waits_check s'.locks)
    obtain ⟨es, HEs⟩ : ∃ x, Box (LkM.waits s'.locks = x) := ⟨_, ⟨rfl⟩⟩
    rw [HEs.out] at hvc HCk hwl ⊢
    have HVc := box hvc
    have HW1 := box (HW.out.after hb1)
    have HO1 : Box (Only B Tb v v' w w1) := ⟨HOn.out.after hb1 HBr.out⟩
    clear hvc heg hev hb1 henil HW HOn HBr
    obtain ⟨EL, HEL⟩ : ∃ x, Box (es.length = x) := ⟨_, ⟨rfl⟩⟩
    rw [HEL.out] at HVc hwl ⊢
    go_wp2_with fail
    refine HVc.out.mono ?_
    clear HVc
    rintro e w2 ⟨hb2, ⟨h1, _⟩ | ⟨_, out, r, rv, hV, hp, hsr, rfl, hrw⟩⟩
    · exact absurd HCk.out h1
    have HV : Box (VicM.Vic 12 (LkM.waits s'.locks) out) := ⟨by rw [HEs.out]; exact hV⟩
    have HW2 := box (HW1.out.after hb2)
    have HO2 : Box (Only B Tb v v' w w2) := ⟨HO1.out.after hb2 HW1.out.bw⟩
    obtain ⟨ra, rc, rfl, hrn, hrat, _, _⟩ := IntsAt.own hrw
    obtain ⟨RL, HRL⟩ : ∃ x, Box (r.length = x) := ⟨_, ⟨rfl⟩⟩
    have hrl : out.length = RL := by rw [← HRL.out, hp.length_eq]; simp [GrM.ints]
    rw [HRL.out]
    clear hb2 HW1 HO1 hV hrn HCk
    by_cases hR0 : RL = 0
    · have ho : out = [] := List.eq_nil_of_length_eq_zero (by rw [hrl]; exact hR0)
      have HFin : Box (PP (.returned (.tuple #[])) w2) := ⟨HPost.out _ _ rfl ⟨s', v', HFr.out _ (.done (by have := HV.out; rw [ho] at this; exact this)), ⟨_, _, _, _, HW2.out⟩, HO2.out⟩⟩
      clear hp hsr hrw hrat ho hrl HRL
      subst hR0
      go_wp2_with fail
      exact bodyPost_end (results_none rfl _ _ _) rfl HFin.out
    have hR1 : 0 < r.length := by rw [HRL.out]; omega
    obtain ⟨k, hk, hLk⟩ := TwoM.last_of hp hsr hR1
    obtain ⟨rb, roff, rfl, hrb, hrc⟩ := hrat.resolve_left (by intro h; rw [h] at hR1; simp at hR1)
    have r0 := hrc (r.length - 1) (by omega)
    rw [hk] at r0
    obtain ⟨hwk, hk12⟩ := vic_waits HI'.out.good HV.out hLk.1
    have HLk := box hLk; have HWk := box hwk
    have hlk0 : s'.late k ≠ [] := by
      obtain ⟨i, mm, h1⟩ := LkM.waiting_iff.1 hwk
      obtain ⟨o, q, h2, _⟩ := HI'.out.wait k i mm h1
      rw [h2]; simp
    have HKl : Box (lates (kill s' k) + 1 ≤ lates s') := ⟨by
      have := lates_kill (s := s') hk12
      have := List.length_pos_iff.2 hlk0
      omega⟩
    have hr0 : w2.cell? ⟨rb, roff + (RL - 1), none⟩ = some (.int .i64 (k : Int)) := by rw [← HRL.out]; exact r0
    have hkI : (k : Int) < 12 := by omega
    have hrli : (0 : Int) < (RL : Int) := by omega
    have hRL : RL ≤ 144 := by have h1 := HV.out.len; rw [HEs.out, HEL.out] at h1; omega
    clear hp hsr hrw hrat hk hLk hrc hwk hlk0 r0 hrl
    have HKi : Box (Inv { kill s' k with locks := (LkM.drop s'.locks (k : Int)).1 } ((LkM.drop s'.locks (k : Int)).2 ++ G) p h) := ⟨HI'.out.kills HWk.out⟩
    obtain ⟨hsm1, _⟩ := small HI'.out HTo.out
    obtain ⟨oa, oc, hv12, _, _, _, _⟩ := OpsAt.own HW2.out.out
    obtain ⟨OL, HOL⟩ : ∃ x, Box (s'.out.length = x) := ⟨_, ⟨rfl⟩⟩
    rw [HOL.out] at hv12 hsm1
    have zD := HW2.out.blk.frozen (13 + k)
    have cD := HW2.out.cDead hk12
    have HS3 := box (HW2.out.setDead hk12)
    have zL := HS3.out.1.blk.frozen (1 + k)
    have cL := HS3.out.1.cLate hk12
    have hT3 := HS3.out.1.tlt
    have HS4 := box (HS3.out.1.setRow (s' := { s' with dead := upd s'.dead k true, late := upd s'.late k [] }) (i := k) (by omega) (W' := w2.setCell ⟨Tb, 13 + k, none⟩ (.bool true)) (u := .slice none 0 0) (l := []) (World.ownsRow_nil _ _ _ _) ⟨rfl, rfl, rfl, Nat.le_refl _, fun _ _ _ => rfl⟩ (by intro b hb; cases hb) (rows_late hk12 rfl rfl) rfl (fun _ _ => rfl) (1 + k) (by rw [if_neg (by omega)]))
    have hT2 := HW2.out.tlt
    have HO4 : Box (Only B Tb v (upd v' k (.slice none 0 0)) w ((w2.setCell ⟨Tb, 13 + k, none⟩ (.bool true)).setCell ⟨Tb, 1 + k, none⟩ (.slice none 0 0))) := ⟨(HO2.out.trans HS3.out.2).trans HS4.out.2⟩
    have hTB : B ≤ Tb := HW2.out.base
    go_upto_region 6 with (fail)
    obtain ⟨W4, HW4⟩ : ∃ x, Box ((w2.setCell ⟨Tb, 13 + k, none⟩ (.bool true)).setCell ⟨Tb, 1 + k, none⟩ (.slice none 0 0) = x) := ⟨_, ⟨rfl⟩⟩
    rw [HW4.out] at HS4 HO4 ⊢
    clear HS3 zD zL cD cL hT2 hT3 hr0 hkI hrli
    have hv4 : upd v' k (.slice none 0 0) 12 = .slice oa OL oc := by rw [upd_other _ _ (by omega)]; exact hv12
    have HOut : Box (W4.ownsRow B 30 3 (.slice oa OL oc) OL (opVals s'.out)) := ⟨by
      have h1 : W4.ownsRow B 30 3 (.slice oa OL oc) s'.out.length (opVals s'.out) := by have := HS4.out.1.out; rwa [hv4] at this
      rwa [HOL.out] at h1⟩
    have hTn : (Value.slice oa OL oc).ownBlock ≠ some Tb := by rw [← hv4]; exact HS4.out.1.rne (by omega)
    have HCx : Box (∀ wx : World, W4.grownBy wx (Value.slice oa OL oc).ownBlock → wx.cell? ⟨Tb, 25, none⟩ = some (.slice oa OL oc) ∧ wx.frozen? ⟨Tb, 25, none⟩ = false ∧ Tb < wx.heap.size) := ⟨fun wx hg => by
      have hb := HS4.out.1.blk.grown hg hTn
      have e1 := HS4.out.1.cOut
      have hT := hg.block Tb HS4.out.1.tlt (fun e => hTn e.symm)
      rw [hv4] at e1
      exact ⟨(World.cell?_of_block (a := ⟨Tb, 25, none⟩) hT).trans e1, hb.frozen _, hb.lt⟩⟩
    have hown := HOut.out.alloc (.cells #[.int .i64 (k : Int), .int .i64 4, .int .i64 0] 30)
    obtain ⟨c4, z4, hT4⟩ := HCx.out W4 ⟨rfl, rfl, rfl, Nat.le_refl _, fun _ _ _ => rfl⟩
    have hBW4 : B ≤ W4.heap.size := HS4.out.1.bw
    go_wp2_with (at_builtin; go_must (refine wpList_append_lies _ rfl _ _ 22 rfl B 30 i0 _ 3 24 Try.underlying22 hi0 hz0 hz1 hz2 rfl (by decide) _ _ _ rfl hown ⟨W4.heap.size, 0, none⟩ 1 1 [.int .i64 (k : Int), .int .i64 4, .int .i64 0] rfl rfl (cells_new W4 [.int .i64 (k : Int), .int .i64 4, .int .i64 0] 30) (by simp [Value.oneCell']) (by decide) (by unfold maxLen; omega) (by omega) (by simp; omega) (W4.heap.size + 1) (by simp) ?_))
    intro gg gcap w7 hown7 hgrow7 hat7 hlt7
    have hb4 : Below W4.heap.size W4 (W4.alloc (.cells #[.int .i64 (k : Int), .int .i64 4, .int .i64 0] 30)) := (Below.refl _ _).alloc (Nat.le_refl _) _
    have hG7 : W4.grownBy w7 (Value.slice oa OL oc).ownBlock := ⟨hgrow7.os.trans hb4.os, hgrow7.tape.trans hb4.tape, hgrow7.output.trans hb4.output, Nat.le_trans hb4.size hgrow7.size, fun b h1 hne => (hgrow7.block b (Nat.lt_of_lt_of_le h1 hb4.size) hne).trans (hb4.block b h1)⟩
    obtain ⟨c7, z7, hT7⟩ := HCx.out w7 hG7
    have HS5 := box (HS4.out.1.pushOut (o := ⟨(k : Int), 4, 0⟩) hv4 HOL.out hown7 hG7 (hat7.imp id (fun e => by omega)))
    obtain ⟨u, Hu⟩ : ∃ x, Box (Value.slice (some ⟨gg, 0, none⟩) (OL + 1) gcap = x) := ⟨_, ⟨rfl⟩⟩
    obtain ⟨wc, HWc⟩ : ∃ x, Box (w7.setCell ⟨Tb, 25, none⟩ (.slice (some ⟨gg, 0, none⟩) (OL + 1) gcap) = x) := ⟨_, ⟨rfl⟩⟩
    rw [HWc.out, Hu.out] at HS5
    clear hown hown7 hgrow7 hat7 hb4 hG7 c4 z4 hT4
    have HCall := box (HDr.out B Tb wc (kill s' k) _ k G p h ⟨_, _, _, _, HS5.out.1⟩ HI'.out.good hk12 HKi.out HTo.out (by have := HKl.out; have := HLf.out; omega))
    have HNx : Box (∀ s3 v3 w6, Drops (kill s' k) k s3 → At w6 B Tb s3 v3 → Only B Tb (upd (upd v' k (.slice none 0 0)) 12 u) v3 wc w6 → ∃ f, f < gk ∧ Box (f ≤ m + 1 ∧ ∃ s' v', (∀ s'', Free s' s'' → Free s s'') ∧ At w6 B Tb s' v' ∧ Only B Tb v v' w w6 ∧ Inv s' G p h ∧ lates s' = f)) := ⟨fun s3 v3 w6 k1 k2 k3 => by
      obtain ⟨n1, n2, _⟩ := drops_inv k1 HI'.out.good HI'.out.plain HKi.out
      have n3 := HKl.out
      have n4 := HLf.out
      exact ⟨lates s3, by omega, ⟨by omega, s3, v3, fun s'' hF => HFr.out _ (.step HV.out HLk.out k1 hF), k2, (HO4.out.trans HS5.out.2).trans k3, n1, rfl⟩⟩⟩
    clear HS4 HO4 HCx HOut
    go_wp2_with fail
    rw [HWc.out]
    refine HCall.out.mono ?_
    rintro e w6 ⟨rfl, s3, v3, k1, k2, k3⟩
    obtain ⟨f, hf, HE⟩ := HNx.out s3 v3 w6 k1 k2 k3
    clear k1 k2 k3 HCall HNx
    go_wp2_with fail
    go_roundg f
    case measure => omega
    case rel => exact HE
end Go.Proofs.Ytnnkejolfhhmlaa
