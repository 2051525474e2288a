/- see.Reads of a run in which nobody aborts: what it answers. -/
import Derived.Test.YtnhhjjhhicmfpaaSeeW
import Derived.Test.YtnhhjjhhicmfpaaRunCheck
import Derived.Test.YtnhhjjhhicmfpaaStampM
import Derived.Deep.AppendLies
import Derived.Deep.RegionLaw
import Derived.Deep.DeepMust
namespace Go.Proofs.Ytnhhjjhhicmfpaa
open Go.RowKit Go.Lib

theorem Try.infoSeen : (Try.prog.info? 51).map (fun i => (i.zero, i.size, i.bytes)) = some (some (.agg #[.int .i64 0, .int .i64 0]), 2, 16) := by kernel_rfl
theorem Try.infoIntSe : (Try.prog.info? 3).map (fun i => (i.zero, i.size, i.bytes)) = some (some (.int .i64 0), 1, 8) := by kernel_rfl
def SeeM.ReadsPost (l : List OpM) (w : World) (e : Ending) (w' : World) : Prop :=
  Below w.heap.size w w' ∧ ∃ v, e = .returned (.tuple #[v, .int .i64 0]) ∧ w'.ownsRow w.heap.size 51 2 v (SeeM.readsTo l l.length).length (egVals (SeeM.readsTo l l.length))

set_option maxRecDepth 100000 in
set_option maxHeartbeats 8000000 in
theorem reads_any (l : List OpM) (ao : Option Addr) (cap : Nat) (w : World) (h : OpsAt w ao l) (hf : RunM.Fits l) (hc : RunM.check l = 0) (hna : ∀ o ∈ l, o.kind ≠ 4) :
    Calls Try.prog 24 #[.slice ao l.length cap] w (SeeM.ReadsPost l w) := by
  obtain ⟨i0, hi0, hz0, hz1, hz2⟩ := info_parts Try.infoSeen
  obtain ⟨j0, hj0, hy0, hy1, hy2⟩ := info_parts Try.infoIntSe
  have H := box h; have Hf := box hf; have Hc := box hc; have Hna := box hna
  have hlen := (RunM.check_ok hc).1
  clear h hf hc hna
  go_enter Try.func24, Try.ntmps24
  go_wp2_with fail
  refine (runCheck_any l ao cap _ (H.out.below ((Below.refl _ _).alloc (Nat.le_refl _) _) (Nat.le_refl _)) Hf.out).mono ?_
  rintro e w1 ⟨rfl, hb1⟩
  rw [Hc.out]
  have hk1 := (Blk.new w [.slice ao l.length cap] 22).after hb1
  have HB1 := box (below_tr ((Below.refl w.heap.size w).alloc (Nat.le_refl _) _) hb1)
  have HK1 := box hk1
  have hlt1 := hk1.lt
  clear hb1 hk1
  go_upto_region 6 with (fail)
  refine name_world (fun W => SeeM.RW w ao cap w.heap.size w1.heap.size l 0 (fun _ => .slice none 0 0) (.slice none 0 0) W) ⟨Nat.le_refl _, hlt1, HK1.out.alloc _, Blk.new w1 (Tab 20 fun _ => .slice none 0 0) _, Fam.nil _ _ _ _ _, World.ownsRow_nil _ _ _ _, HB1.out.alloc HB1.out.size _⟩ ?_
  intro W hW
  have HW := box hW
  have p0 := hW.par.cell (i := 0) rfl
  clear hW HB1 HK1 hlt1
  generalize w1.heap.size = N at *
  obtain ⟨n, HN⟩ : ∃ n, Box (l.length = n) := ⟨_, ⟨rfl⟩⟩
  rw [HN.out] at p0 hlen
  go_wp2_with fail
  go_loopw [6, 19] (fun t6 t19 wr => ∃ (k : Nat) (vw : Nat → Value) (vo : Value), k ≤ n ∧ vo = t6 ∧ t19 = .int .i64 (k : Int) ∧ Box (SeeM.RW w ao cap w.heap.size N l k vw vo wr)) (fun _ t19 _ => n - (RowKit.intOf t19).toNat)
  case atStart => exact ⟨0, _, _, Nat.zero_le _, rfl, rfl, HW⟩
  case round =>
    obtain ⟨k, vw, vo, hk, rfl, rfl, HR⟩ := hrel
    clear HW p0
    by_cases hlt : k < n
    · have hkl : k < l.length := by rw [HN.out]; exact hlt
      obtain ⟨b, off, rfl, _, hrow⟩ := ((H.out.below HR.out.below (Nat.le_refl _)).resolve_left (by intro h; rw [h] at hkl; simp at hkl))
      obtain ⟨hc0, hc1, hc2⟩ := hrow k hkl
      obtain ⟨x, hx⟩ : ∃ x, l[k] = x := ⟨_, rfl⟩
      have Hx : Box (l[k]! = x) := ⟨by rw [getElem!_pos l k hkl]; exact hx⟩
      have hbz := RunM.bad_zero ((RunM.check_ok Hc.out).2.2 x (by rw [← hx]; exact List.getElem_mem hkl))
      have hn4 := Hna.out x (by rw [← hx]; exact List.getElem_mem hkl)
      rw [hx] at hc0 hc1 hc2
      obtain ⟨x0, x1, x2⟩ := x
      simp only at hc0 hc1 hc2 hbz hn4
      obtain ⟨b1, b2, b3, b4, b5, b6, b7⟩ := hbz
      obtain ⟨it, rfl⟩ := Int.eq_ofNat_of_zero_le b3
      have hit : it < 20 := by omega
      have hiti : (it : Int) < 20 := by omega
      clear hrow hx b1 b2 b3 b4 b7
      go_upto_region 9 with (fail)
      refine name_world (fun W => SeeM.RW w _ cap w.heap.size N l k vw vo W ∧ Blk W wr.heap.size 25 [.int .i64 x0, .int .i64 x1, .int .i64 (it : Int)]) ⟨HR.out.alloc _, Blk.new _ _ _⟩ ?_
      rintro W2 ⟨hw, hbw⟩
      have HW := box hw; have HBW := box hbw
      have d0 := hbw.cell (i := 0) rfl
      have d1 := hbw.cell (i := 1) rfl
      have d2 := hbw.cell (i := 2) rfl
      have dr := hw.tab.tabCell hit
      have fr := hw.tab.frozen it
      have ownr := hw.fam.own it hit
      have hwl := SeeM.wl_len l it k
      have hrl := SeeM.readsTo_len l k
      have heb := hw.below.size
      have e3 := hw.tab.lt
      have e5 := hbw.lt
      clear hw hbw hc0 hc1 hc2 HR
      obtain ⟨Bo, HBo⟩ : ∃ Bo, Box (wr.heap.size = Bo) := ⟨_, ⟨rfl⟩⟩
      rw [HBo.out] at HBW d0 d1 d2 e5 ⊢
      have h3 : x1 = 1 ∨ x1 = 2 ∨ x1 = 3 := by omega
      clear b5 b6 hn4
      rcases h3 with rfl | rfl | rfl
      · -- a read
        have HL : Box (∀ (o : Obj) (v : Int) (vo' : Value) (W' : World), v = SeeM.lastTo l it k → (W2.alloc o).grownBy W' vo.ownBlock → W'.ownsRow w.heap.size 51 2 vo' ((SeeM.readsTo l k).length + 1) (egVals (SeeM.readsTo l k) ++ [.int .i64 (k : Int), .int .i64 v]) → SeeM.RW w (some ⟨b, off, none⟩) cap w.heap.size N l (k + 1) vw vo' W') := ⟨fun o v vo' W' hv hg ho => by
          subst hv
          refine (HW.out.alloc o).read (by rw [Hx.out]) hg ?_
          rw [Hx.out]
          exact ho⟩
        obtain ⟨wo, wc, hvw, _, hwat, _, _⟩ := IntsAt.own ownr
        rw [hvw] at dr
        clear hvw ownr fr
        by_cases hn0 : (SeeM.wl l it k).length = 0
        · have q : decide (0 < (SeeM.wl l it k).length) = false := decide_eq_false (by omega)
          have HLt : Box (-1 = SeeM.lastTo l it k) := ⟨(SeeM.lastTo_nil hn0).symm⟩
          clear hwat hn0
          generalize (SeeM.wl l it k).length = m at *
          have hownA := (HW.out.out).alloc (.cells #[.int .i64 (k : Int), .int .i64 (-1)] 51)
          go_wp2_with (at_builtin; go_must (refine wpList_append_own _ rfl _ _ 46 rfl w.heap.size 51 i0 _ 2 16 Try.underlying46 hi0 hz0 hz1 hz2 rfl (by decide) _ _ _ rfl hownA ⟨W2.heap.size, 0, none⟩ 1 1 [.int .i64 (k : Int), .int .i64 (-1)] rfl rfl (cells_new W2 [.int .i64 (k : Int), .int .i64 (-1)] 51) (by simp [Value.oneCell']) (by unfold maxLen; omega) (by omega) (by simp; omega) ?_))
          intro v' w3 hown3 hgrow _
          have HNx := box (HL.out _ _ _ _ HLt.out hgrow hown3)
          clear hown3 hgrow hownA dr d0 d1 d2
          go_wp2_with fail
          go_roundw
          case rel => exact ⟨k + 1, vw, _, hlt, rfl, by go_num, HNx⟩
          case measure => simp [RowKit.intOf]; omega
        · obtain ⟨m, hm⟩ : ∃ m, (SeeM.wl l it k).length = m + 1 := ⟨(SeeM.wl l it k).length - 1, by omega⟩
          obtain ⟨gb, goff, rfl, _, hgr⟩ := (hwat.resolve_left (by intro h; rw [h] at hm; simp at hm))
          have hcg := hgr m (by omega)
          have hml : (SeeM.wl l it k)[m] = SeeM.lastTo l it k := by
            rw [SeeM.lastTo_last (by omega)]
            congr 1; omega
          have HLt := box hml
          rw [hm] at dr
          have q : decide (0 < m + 1) = true := decide_eq_true (by omega)
          have hm200 : m ≤ 200 := by omega
          clear hml
          generalize (SeeM.wl l it k)[m] = lw at *
          clear hgr hn0 hwat hm
          have hownA := (HW.out.out).alloc (.cells #[.int .i64 (k : Int), .int .i64 lw] 51)
          go_wp2_with (at_builtin; go_must (refine wpList_append_own _ rfl _ _ 46 rfl w.heap.size 51 i0 _ 2 16 Try.underlying46 hi0 hz0 hz1 hz2 rfl (by decide) _ _ _ rfl hownA ⟨W2.heap.size, 0, none⟩ 1 1 [.int .i64 (k : Int), .int .i64 lw] rfl rfl (cells_new W2 [.int .i64 (k : Int), .int .i64 lw] 51) (by simp [Value.oneCell']) (by unfold maxLen; omega) (by omega) (by simp; omega) ?_))
          intro v' w3 hown3 hgrow _
          have HNx := box (HL.out _ _ _ _ HLt.out hgrow hown3)
          clear hown3 hgrow hownA dr d0 d1 d2
          go_wp2_with fail
          go_roundw
          case rel => exact ⟨k + 1, vw, _, hlt, rfl, by go_num, HNx⟩
          case measure => simp [RowKit.intOf]; omega
      · -- a write
        obtain ⟨vx, HVX⟩ : ∃ vx, Box (vw it = vx) := ⟨_, ⟨rfl⟩⟩
        rw [HVX.out] at dr ownr
        have hx0 : (0 : Int) ≤ (it : Int) := by omega
        have a1 : vx.ownBlock ≠ some Bo := HBW.out.ne_own ownr (by decide)
        have a2 : vx.ownBlock ≠ some N := HW.out.tab.ne_own ownr (by decide)
        have e5' : Bo < W2.drew.heap.size := e5
        have e3' : N < W2.drew.heap.size := e3
        have hlr : (SeeM.wl l it k).length ≤ 9000000000000 := by omega
        have HWr := box (fun (o : Obj) (W' : World) (g gc : Nat) hg ho hat => ((HW.out.alloc o).drew).write (W := W') (by rw [Hx.out]) hit (by rw [Hx.out]) (g := g) (gc := gc) hg ho hat)
        rw [HVX.out] at HWr
        go_wp2_with fail
        refine wp_meetF (fun wx => ∃ v', SeeM.RW w (some ⟨b, off, none⟩) cap w.heap.size N l (k + 1) (upd vw it v') vo wx) ?_
        apply Exists.intro
        constructor
        · go_region_law ((refine step_append_lies _ (by rfl) _ _ _ (by rfl) w.heap.size 3 j0 _ 1 8 Try.underlying23 hj0 hy0 hy1 hy2 rfl (by omega) vx _ _ (by rfl) ((ownr.alloc _).drew) ⟨W2.heap.size, 0, none⟩ 1 1 [.int .i64 (k : Int)] (by rfl) (by rfl) (World.news_of_block (cs := #[.int .i64 (k : Int)]) (t := 3) (fr := (0, 0)) (heap_alloc_new W2 _)) (by simp [Value.oneCell']) (by omega) (by unfold maxLen; omega) (by omega) (by simp; omega) (W2.heap.size + 1) (by simp) ?_; intro gg gcap w2 hown2 hgrow hat hlt2; have gB := (HBW.out.alloc _).drew.grown hgrow a1; have g0 := gB.cell (i := 0) rfl; have g3 := gB.cell (i := 2) rfl; have g1' := ((HW.out.tab.alloc _).drew.grown hgrow a2); have g1 := g1'.tabCell hit; have g2 := g1'.frozen it; rw [HVX.out] at g1))
          all_goals
            exact ⟨gg, gcap, rfl, ⟨_, HWr.out _ _ _ _ hgrow hown2 (hat.imp id (fun h => by rw [h]; exact (World.size_alloc _ _).symm))⟩⟩
        · intro gg gcap wx hcut
          obtain ⟨v', hw⟩ := hcut
          have HW5 := box hw
          clear hw d0 d1 d2 dr fr ownr
          go_wp2_with fail
          go_roundw
          case rel => exact ⟨k + 1, _, _, hlt, rfl, by go_num, HW5⟩
          case measure => simp [RowKit.intOf]; omega
      · -- an end
        clear dr fr ownr
        go_wp2_with fail
        go_roundw
        case rel => exact ⟨k + 1, vw, _, hlt, rfl, by go_num, ⟨HW.out.skip (by rw [Hx.out]; show (3 : Int) ≠ 1; decide) (by rw [Hx.out]; show (3 : Int) ≠ 2; decide)⟩⟩
        case measure => simp [RowKit.intOf]; omega
    · obtain rfl : k = n := by omega
      have HO : Box (wr.ownsRow w.heap.size 51 2 vo (SeeM.readsTo l l.length).length (egVals (SeeM.readsTo l l.length))) := ⟨by rw [HN.out]; exact HR.out.out⟩
      have HB := box HR.out.below
      clear HR
      go_wp2_with fail
      go_ret2
      exact ⟨HB.out, _, rfl, HO.out⟩
end Go.Proofs.Ytnhhjjhhicmfpaa
