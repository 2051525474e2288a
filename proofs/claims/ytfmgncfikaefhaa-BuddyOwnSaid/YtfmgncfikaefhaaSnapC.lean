/- snap's commit: what it computes. -/
import Derived.Test.YtfmgncfikaefhaaSnap
import Derived.BigQuiet
namespace Go.Proofs.Ytfmgncfikaefhaa
open Go.RowKit Go.Lib

theorem Try.infoVer : (Try.prog.info? 139).map (fun i => (i.zero, i.size, i.bytes)) = some (some (.agg #[.int .i64 0, .int .i64 0]), 2, 16) := by kernel_rfl

theorem intRow_at {w : World} {base n : Nat} {v : Value} {l : List Int} (h : w.ownsRow base 3 1 v n (intVals l)) :
    ∃ ao cap, v = .slice ao l.length cap ∧ (∀ k (hk : k < l.length), ∃ g, ao = some ⟨g, 0, none⟩ ∧ g < w.heap.size ∧ w.cell? ⟨g, k, none⟩ = some (.int .i64 l[k])) ∧ l.length ≤ cap ∧ (ao = none → cap = 0) := by
  obtain ⟨ao, cap, h1, h2, h3, h4, h5⟩ := IntsAt.own h
  refine ⟨ao, cap, h1, fun k hk => ?_, h5, h4⟩
  subst h1
  rcases h.2 with ⟨h1, hz⟩ | ⟨g, cap', cur, h1, h6, h7, _⟩
  · simp only [Value.slice.injEq] at h1; omega
  · simp only [Value.slice.injEq] at h1
    obtain ⟨rfl, hn, rfl⟩ := h1
    subst hn
    refine ⟨g, rfl, (Array.getElem?_eq_some_iff.1 h7).1, ?_⟩
    rw [h.cellAt k (by omega), intVals_get hk]

def SnapM.hit (st : SnSt) (x : Nat) (it : Int) : Bool := (st.vs it.toNat).any (fun v => decide (st.fr x < v.at_))
theorem any_take_succ {α : Type} {l : List α} {p : α → Bool} {k : Nat} (hk : k < l.length) (h : (l.take k).any p = false) : (l.take (k + 1)).any p = p l[k] := by
  rw [List.take_succ_eq_append_getElem hk, List.any_append, h]; simp
theorem any_of_at {α : Type} {l : List α} {p : α → Bool} {k : Nat} (hk : k < l.length) (h : p l[k] = true) : l.any p = true := List.any_eq_true.2 ⟨_, List.getElem_mem hk, h⟩

theorem below_dN {B : Nat} {a w : World} (h : Below B a w) (n : Nat) : Below B a (w.drewN n) := h.trans ⟨rfl, rfl, rfl, Nat.le_refl _, fun _ _ => rfl⟩
theorem SnapM.Kept.of_below {N : Nat} {w w' : World} (h : Below w.heap.size w w') : SnapM.Kept N w w' :=
  ⟨h.size, fun g _ _ _ h0 _ _ _ => (h.block g (Array.getElem?_eq_some_iff.1 h0).1).trans h0⟩

set_option maxRecDepth 20000 in
set_option maxHeartbeats 4000000 in
theorem commit_any {w wa : World} {N : Nat} {st : SnSt} {vw vv : Nat → Value} (h : SnapM.SW w N st vw vv wa) (x : Nat) (hx : x < 12) (t : Int) {m : Nat} (hb : SnapM.Bnd st m) (hm : m ≤ 200) :
    Calls Try.prog 66 #[.pointer (some ⟨N, 0, none⟩), .pointer (some ⟨N, x * 3, none⟩), .int .i64 t] wa fun e w' =>
      ∃ vv', e = .returned (.bool (!SnapM.clash st x)) ∧ SnapM.SW w N (SnapM.commit st x t) vw vv' w' ∧ SnapM.Kept N wa w' := by
  obtain ⟨i0, hi0, hz0, hz1, hz2⟩ := info_parts Try.infoVer
  have H := box h; have Hbn := box hb
  have hlw : (st.wr x).length ≤ 200 := Nat.le_trans (hb.w x) hm
  obtain ⟨ao, cap, hv, hel, _, _⟩ := intRow_at (h.fw.own x hx)
  have hc := h.cell (i := x * 3 + 2) (by omega)
  rw [SnapM.cell_wr x hx, hv] at hc
  have Hel := box hel; have Hvx := box hv
  have hlN := h.b0.lt
  clear hel hv h hb
  go_enter Try.func66, Try.ntmps66
  go_wp2_with fail
  go_loopw [18] (fun t18 wr => ∃ j : Nat, j ≤ (st.wr x).length ∧ t18 = .int .i64 (j : Int) ∧ Box (((st.wr x).take j).any (SnapM.hit st x) = false) ∧ Box (Below wa.heap.size wa wr)) (fun t18 _ => (st.wr x).length - (intOf t18).toNat)
  case atStart => exact ⟨0, Nat.zero_le _, rfl, ⟨rfl⟩, ⟨Below.refl _ _⟩⟩
  case round =>
    obtain ⟨j, hj, rfl, Hj, Hb⟩ := hrel
    by_cases hlt : j < (st.wr x).length
    · obtain ⟨g, rfl, hg, d0⟩ := Hel.out j hlt
      have c0 : wr.cell? ⟨g, j, none⟩ = some (.int .i64 (st.wr x)[j]) := (Hb.out.cell (p := ⟨g, j, none⟩) hg).trans d0
      obtain ⟨hi1, hi2⟩ := Hbn.out.it x _ (List.getElem_mem hlt)
      have HA := box (any_take_succ (p := SnapM.hit st x) hlt Hj.out)
      have HC := box (fun h => any_of_at (p := SnapM.hit st x) hlt h)
      clear d0 hc
      generalize (st.wr x)[j] = it' at *
      obtain ⟨it, rfl⟩ := Int.eq_ofNat_of_zero_le hi1
      have hit : it < 20 := by omega
      obtain ⟨ao2, cap2, hv2, hel2, _, _⟩ := verRow_at (H.out.fv.own it hit)
      have hc2 : wr.cell? ⟨N, 37 + it, none⟩ = some (.slice ao2 (st.vs it).length cap2) := by
        rw [Hb.out.cell (p := ⟨N, 37 + it, none⟩) hlN, H.out.cell (i := 37 + it) (by omega), SnapM.cell_vs, hv2]
      have hlv : (st.vs it).length ≤ 40000 := Nat.le_trans (Hbn.out.v it) (Nat.le_trans (Nat.mul_le_mul hm hm) (by decide))
      have Hel2 := box hel2
      have hit0 : (it : Int).toNat = it := by omega
      clear hel2 hv2
      go_wp2_with fail
      go_loopw [29] (fun t29 w2 => ∃ k : Nat, k ≤ (st.vs it).length ∧ t29 = .int .i64 (k : Int) ∧ Box (((st.vs it).take k).any (fun v => decide (st.fr x < v.at_)) = false) ∧ Box (Below wa.heap.size wa w2)) (fun t29 _ => (st.vs it).length - (intOf t29).toNat)
      case atStart => exact ⟨0, Nat.zero_le _, rfl, ⟨rfl⟩, Hb⟩
      case round =>
        obtain ⟨k, hk, rfl, Hk, Hb2⟩ := hrel
        by_cases hlt2 : k < (st.vs it).length
        · obtain ⟨g2, rfl, hg2, d0, d1⟩ := Hel2.out k hlt2
          have e0 : wr.cell? ⟨g2, k * 2, none⟩ = some (.int .i64 (st.vs it)[k].by_) := (Hb2.out.cell (p := ⟨g2, k * 2, none⟩) hg2).trans d0
          have e1 : wr.cell? ⟨g2, k * 2 + 1, none⟩ = some (.int .i64 (st.vs it)[k].at_) := (Hb2.out.cell (p := ⟨g2, k * 2 + 1, none⟩) hg2).trans d1
          have e2 : wr.cell? ⟨N, x * 3 + 1, none⟩ = some (.int .i64 (st.fr x)) := by
            rw [Hb2.out.cell (p := ⟨N, x * 3 + 1, none⟩) hlN, H.out.cell (i := x * 3 + 1) (by omega), SnapM.cell_fr x hx]
          have HA2 := box (any_take_succ (p := fun v => decide (st.fr x < v.at_)) hlt2 Hk.out)
          have HC2 := box (fun h => any_of_at (p := fun v => decide (st.fr x < v.at_)) hlt2 h)
          have hbs := Hb2.out.size
          clear d0 d1 hc2 c0
          generalize (st.vs it)[k] = v at *
          obtain ⟨vb, va⟩ := v
          simp only at e0 e1 HA2 HC2
          generalize HFe : st.fr x = f at *
          have HF := box HFe
          clear HFe
          by_cases hlt3 : f < va
          · have q : decide (f < va) = true := decide_eq_true hlt3
            have HQ := box hlt3
            clear hlt3
            go_wp2_with fail
            have eN : (wr.alloc (.cells #[.int .i64 vb, .int .i64 va] 139)).cell? ⟨N, x * 3 + 1, none⟩ = some (.int .i64 f) := by
              rw [World.cell?_of_block (w := wr) (Below.heap_alloc _ _ N (by omega))]; exact e2
            refine name_world (fun W => Below wa.heap.size wa W ∧ W.cell? ⟨wr.heap.size, 1, none⟩ = some (.int .i64 va) ∧ W.cell? ⟨N, x * 3 + 1, none⟩ = some (.int .i64 f)) ⟨Hb2.out.alloc hbs _, (Blk.new wr [.int .i64 vb, .int .i64 va] _).cell rfl, eN⟩ ?_
            rintro W ⟨hbW, w1, w2⟩
            have HbW := box hbW
            clear eN hbW e2 e0 e1
            generalize wr.heap.size = B at *
            go_quiet (fail)
            go_wp2_with fail
            go_ret
            have hcl : SnapM.clash st x = true := by
              refine HC.out ?_
              unfold SnapM.hit
              rw [hit0, HF.out]
              exact HC2.out (decide_eq_true HQ.out)
            refine ⟨vv, by rw [hcl]; rfl, ?_, ?_⟩
            · rw [SnapM.commit, if_pos hcl]
              exact H.out.after (below_dN HbW.out _)
            · exact SnapM.Kept.of_below (below_dN HbW.out _)
          · have q : decide (f < va) = false := decide_eq_false hlt3
            have HQ := box hlt3
            clear hlt3
            go_wp2_with fail
            have eN : (wr.alloc (.cells #[.int .i64 vb, .int .i64 va] 139)).cell? ⟨N, x * 3 + 1, none⟩ = some (.int .i64 f) := by
              rw [World.cell?_of_block (w := wr) (Below.heap_alloc _ _ N (by omega))]; exact e2
            refine name_world (fun W => Below wa.heap.size wa W ∧ W.cell? ⟨wr.heap.size, 1, none⟩ = some (.int .i64 va) ∧ W.cell? ⟨N, x * 3 + 1, none⟩ = some (.int .i64 f)) ⟨Hb2.out.alloc hbs _, (Blk.new wr [.int .i64 vb, .int .i64 va] _).cell rfl, eN⟩ ?_
            rintro W ⟨hbW, w1, w2⟩
            have HbW := box hbW
            clear eN hbW e2 e0 e1
            generalize wr.heap.size = B at *
            go_quiet (fail)
            go_wp2_with fail
            go_roundw
            case rel => exact ⟨k + 1, hlt2, by go_num, ⟨by rw [HA2.out]; exact decide_eq_false (by have := HQ.out; omega)⟩, ⟨below_dN HbW.out _⟩⟩
            case measure => simp [intOf]; omega
        · have HE : Box ((st.vs it).take k = st.vs it) := ⟨List.take_of_length_le (by omega)⟩
          have hno : Box (SnapM.hit st x it = false) := ⟨by
            unfold SnapM.hit
            rw [hit0]
            have := Hk.out
            rwa [HE.out] at this⟩
          go_wp2_with fail
          go_roundw
          case rel => exact ⟨j + 1, hlt, by go_num, ⟨by rw [HA.out]; exact hno.out⟩, Hb2⟩
          case measure => simp [intOf]; omega
    · have HE : Box ((st.wr x).take j = st.wr x) := ⟨List.take_of_length_le (by omega)⟩
      have Hcl : Box (SnapM.clash st x = false) := ⟨by
        have := Hj.out
        rw [HE.out] at this
        exact this⟩
      have hsw := H.out.after Hb.out
      have HSW := box hsw
      have HK := box (SnapM.Kept.of_below (N := N) Hb.out)
      have hd1 := Hbn.out.d.1
      have hd2 := Hbn.out.d.2
      have c36 := hsw.cell (i := 36) (by omega)
      rw [SnapM.cell_done] at c36
      have f36 := hsw.b0.frozen 36
      clear hsw hc
      generalize hdn : st.done = dn at *
      have Hdn := box hdn
      clear hdn
      go_upto_region 12 with (fail)
      refine name_world (fun W => SnapM.SW w N { st with done := dn + 1 } vw vv W ∧ SnapM.Kept N wa W) ⟨HSW.out.setDone _, HK.out.set (Or.inl rfl) _ _⟩ ?_
      rintro W ⟨hw, hkW⟩
      have HW := box hw; have HKW := box hkW
      have cw := hw.cell (i := x * 3 + 2) (by omega)
      rw [SnapM.cell_wr x hx, Hvx.out] at cw
      clear hw hkW c36 f36
      go_wp2_with fail
      go_loopw [54] (fun t54 wr => ∃ (j : Nat) (vv2 : Nat → Value), j ≤ (st.wr x).length ∧ t54 = .int .i64 (j : Int) ∧ Box (SnapM.SW w N { st with done := dn + 1, vs := SnapM.put t (dn + 1) st.vs ((st.wr x).take j) } vw vv2 wr) ∧ Box (SnapM.Kept N wa wr)) (fun t54 _ => (st.wr x).length - (intOf t54).toNat)
      case atStart => exact ⟨0, vv, Nat.zero_le _, rfl, HW, HKW⟩
      case round =>
        obtain ⟨j, vv2, hj, rfl, HS, HKs⟩ := hrel
        by_cases hlt : j < (st.wr x).length
        · have HT : Box (SnapM.put t (dn + 1) st.vs ((st.wr x).take (j + 1)) = upd (SnapM.put t (dn + 1) st.vs ((st.wr x).take j)) (st.wr x)[j].toNat (SnapM.put t (dn + 1) st.vs ((st.wr x).take j) (st.wr x)[j].toNat ++ [⟨t, dn + 1⟩])) := ⟨by
            rw [List.take_succ_eq_append_getElem hlt, SnapM.put, List.foldl_append]; rfl⟩
          obtain ⟨ao', cap', hv', hel', _, _⟩ := intRow_at (HS.out.fw.own x hx)
          rw [Hvx.out] at hv'
          simp only [Value.slice.injEq] at hv'
          obtain ⟨rfl, _, rfl⟩ := hv'
          obtain ⟨g, rfl, hg, c0⟩ := hel' j hlt
          simp only at c0
          obtain ⟨hi1, hi2⟩ := Hbn.out.it x _ (List.getElem_mem hlt)
          have hlv : ∀ i, (SnapM.put t (dn + 1) st.vs ((st.wr x).take j) i).length ≤ 50000 := fun i => by
            have h1 := SnapM.put_len t (dn + 1) ((st.wr x).take j) st.vs i
            have h2 := List.length_take_le j (st.wr x)
            have h3 : (st.vs i).length ≤ 40000 := Nat.le_trans (Hbn.out.v i) (Nat.le_trans (Nat.mul_le_mul hm hm) (by decide))
            omega
          clear hel' cw
          generalize (st.wr x)[j] = it' at *
          obtain ⟨it, rfl⟩ := Int.eq_ofNat_of_zero_le hi1
          have hit : it < 20 := by omega
          rw [show (it : Int).toNat = it by omega] at HT
          have hlr := hlv it
          clear hlv
          generalize SnapM.put t (dn + 1) st.vs ((st.wr x).take j) = vs at *
          have dv := HS.out.cell (i := 37 + it) (by omega)
          rw [SnapM.cell_vs] at dv
          have dd := HS.out.cell (i := 36) (by omega)
          rw [SnapM.cell_done] at dd
          simp only at dd
          have fv := HS.out.b0.frozen (37 + it)
          have ownr : wr.ownsRow w.heap.size 139 2 (vv2 it) (vs it).length (verVals (vs it)) := HS.out.fv.own it hit
          have e3 := HS.out.b0.lt
          have eb := HS.out.below.size
          obtain ⟨vx, HVX⟩ : ∃ vx, Box (vv2 it = vx) := ⟨_, ⟨rfl⟩⟩
          rw [HVX.out] at dv ownr
          have a2 : vx.ownBlock ≠ some N := HS.out.b0.ne_own ownr (by decide)
          have e3' : N < wr.drew.heap.size := e3
          have hx0 : (0 : Int) ≤ (it : Int) := by omega
          have hx1 : (it : Int) < 20 := by omega
          go_upto_region 15 with (fail)
          refine wp_meetF (fun wx => ∃ v', SnapM.SW w N { st with done := dn + 1, vs := upd vs it (vs it ++ [⟨t, dn + 1⟩]) } vw (upd vv2 it v') wx ∧ SnapM.Kept N wa wx) ?_
          apply Exists.intro
          constructor
          · go_region_law ((refine step_append_lies _ (by rfl) _ _ _ (by rfl) w.heap.size 139 i0 _ 2 16 Try.underlying111 hi0 hz0 hz1 hz2 rfl (by omega) vx _ _ (by rfl) ((ownr.alloc _).drew) ⟨wr.heap.size, 0, none⟩ 1 1 [.int .i64 t, .int .i64 (dn + 1)] (by rfl) (by rfl) (World.news_of_block (cs := #[.int .i64 t, .int .i64 (dn + 1)]) (t := 139) (fr := (0, 0)) (heap_alloc_new wr _)) (by simp [Value.oneCell']) (by omega) (by unfold maxLen; omega) (by omega) (by simp; omega) (wr.heap.size + 1) (by simp) ?_; intro gg gcap w2 hown2 hgrow hat hlt2; have g1' := ((HS.out.b0.alloc _).drew.grown hgrow a2); have g1 := g1'.tabCell (i := 37 + it) (by omega); have g2 := g1'.frozen (37 + it); rw [SnapM.cell_vs, HVX.out] at g1))
            all_goals
              have hrow := (HS.out.alloc (.cells #[.int .i64 t, .int .i64 (dn + 1)] 139)).drew
              have hkk := (HKs.out.alloc (.cells #[.int .i64 t, .int .i64 (dn + 1)] 139)).drew
              exact ⟨gg, gcap, rfl, _, hrow.putV hit hown2 (by rw [HVX.out]; exact hgrow) (by rw [HVX.out]; exact hat.imp id (fun h => by rw [h]; exact (World.size_alloc _ _).symm)), (hkk.grown ((ownr.alloc _).drew) (Or.inr rfl) hgrow).set (Or.inl rfl) _ _⟩
          intro gg gcap wx hcut
          obtain ⟨v', hw5, hk5⟩ := hcut
          have HW5 := box hw5; have HK5 := box hk5
          clear hw5 hk5 dv dd fv ownr c0
          go_wp2_with fail
          go_roundw
          case rel => exact ⟨j + 1, _, hlt, by go_num, ⟨by rw [HT.out]; exact HW5.out⟩, HK5⟩
          case measure => simp [intOf]; omega
        · have HE2 : Box ((st.wr x).take j = st.wr x) := ⟨List.take_of_length_le (by omega)⟩
          clear cw
          go_wp2_with fail
          go_ret
          refine ⟨vv2, by rw [Hcl.out]; rfl, ?_, HKs.out⟩
          rw [SnapM.commit, if_neg (by rw [Hcl.out]; simp), Hdn.out]
          have := HS.out
          rwa [HE2.out] at this
end Go.Proofs.Ytfmgncfikaefhaa
