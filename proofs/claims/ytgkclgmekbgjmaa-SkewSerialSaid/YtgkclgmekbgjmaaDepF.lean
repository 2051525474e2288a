/- order.loop, Faults, Serial: what they answer. -/
import Derived.Test.YtgkclgmekbgjmaaDepW
import Derived.Test.YtgkclgmekbgjmaaGrOW
import Derived.Test.YtgkclgmekbgjmaaIntDelB
import Derived.Test.YtgkclgmekbgjmaaEgOpen
namespace Go.Proofs.Ytgkclgmekbgjmaa
open Go.RowKit Go.Lib

/-- In a loop that collects edges. -/
structure DepM.EW (w : World) (E : List EgM) (v : Value) (wx : World) : Prop where
  below : Below w.heap.size w wx
  own : wx.ownsRow w.heap.size 46 2 v E.length (egVals E)
theorem DepM.keep_succ {l : List DepM} {k : Nat} (h : k < l.length) (p : DepM → Bool) : ((l.take (k + 1)).filter p).map DepM.eg = ((l.take k).filter p).map DepM.eg ++ if p l[k] = true then [DepM.eg l[k]] else [] := by
  rw [List.take_succ_eq_append_getElem h, List.filter_append, List.map_append]
  congr 1
  cases hp : p l[k] <;> simp [hp]
theorem DepM.keep_len (l : List DepM) (k : Nat) (p : DepM → Bool) : (((l.take k).filter p).map DepM.eg).length ≤ k := by
  rw [List.length_map]
  exact Nat.le_trans (List.length_filter_le _ _) (List.length_take_le _ _)

/-- What order.loop answers. -/
def DepM.LoopPost (E : List EgM) (w : World) (e : Ending) (w' : World) : Prop := Below w.heap.size w w' ∧ e = .returned (.bool (GrM.order 12 E).isNone)
set_option maxRecDepth 20000 in
set_option maxHeartbeats 8000000 in
theorem depLoop_any (l : List DepM) (most : Int) (ao : Option Addr) (cap : Nat) (w : World) (h : DpsAt w ao l) (hn : l.length ≤ 100000000) (hc : GrM.check 12 ((l.filter fun d => decide (d.kind ≤ most)).map DepM.eg) = 0) :
    Calls Try.prog 49 #[.slice ao l.length cap, .int .i64 most] w (DepM.LoopPost ((l.filter fun d => decide (d.kind ≤ most)).map DepM.eg) w) := by
  obtain ⟨i0, hi0, hz0, hz1, hz2⟩ := info_partsD Try.infoEg
  have H := box h; have Hc := box hc
  clear h hc
  obtain ⟨q, Hq⟩ : ∃ q : DepM → Bool, Box ((fun d : DepM => decide (d.kind ≤ most)) = q) := ⟨_, ⟨rfl⟩⟩
  have HQ : Box (∀ d, decide (d.kind ≤ most) = q d) := ⟨fun d => congrFun Hq.out d⟩
  rw [Hq.out] at Hc ⊢
  have HPost : Box (∀ e w', Below w.heap.size w w' → e = .returned (.bool (GrM.order 12 ((l.filter q).map DepM.eg)).isNone) → DepM.LoopPost ((l.filter q).map DepM.eg) w e w') := ⟨fun e w' h1 h2 => ⟨h1, h2⟩⟩
  obtain ⟨Post, HP⟩ : ∃ P, Box (DepM.LoopPost ((l.filter q).map DepM.eg) w = P) := ⟨_, ⟨rfl⟩⟩
  rw [HP.out] at HPost ⊢
  obtain ⟨N, HN⟩ : ∃ N, Box (l.length = N) := ⟨_, ⟨rfl⟩⟩
  rw [HN.out] at hn ⊢
  clear Hq HP
  go_enter Try.func49, Try.ntmps49
  go_wp2_with fail
  go_loopw [5, 12] (fun t5 t12 wr => ∃ (k : Nat) (v : Value), k ≤ N ∧ v = t5 ∧ t12 = .int .i64 (k : Int) ∧ Box (DepM.EW w (((l.take k).filter q).map DepM.eg) v wr)) (fun _ t12 _ => N - (RowKit.intOf t12).toNat)
  case atStart => exact ⟨0, _, Nat.zero_le _, rfl, rfl, ⟨⟨Below.refl _ _, World.ownsRow_nil _ _ _ _⟩⟩⟩
  case round =>
    obtain ⟨k, v, hk, hv, rfl, HE⟩ := hrel
    subst hv
    by_cases hlt : k < N
    · have hkl : k < l.length := by rw [HN.out]; exact hlt
      obtain ⟨b, off, rfl, hb, hrow⟩ := (H.out.below HE.out.below (Nat.le_refl _)).resolve_left (by intro h; rw [h] at hkl; simp at hkl)
      obtain ⟨c0, c1, c2⟩ := hrow k hkl
      have HT := box (DepM.keep_succ hkl q)
      have hlen := DepM.keep_len l k q
      have HQd := box (HQ.out l[k])
      generalize l[k] = d at *
      obtain ⟨d0, d1, d2⟩ := d
      simp only at c0 c1 c2 HQd
      generalize ((l.take k).filter q).map DepM.eg = ms at *
      clear hrow
      go_upto_region 5 with (fail)
      refine name_world (fun W => DepM.EW w ms v W ∧ Blk W wr.heap.size 106 [.int .i64 d0, .int .i64 d1, .int .i64 d2]) ⟨⟨HE.out.below.alloc HE.out.below.size _, HE.out.own.alloc _⟩, Blk.new _ _ _⟩ ?_
      generalize wr.heap.size = A at *
      rintro W ⟨he, hk1⟩
      have HE1 := box he
      have x0 := hk1.cell (i := 0) rfl
      have x1 := hk1.cell (i := 1) rfl
      have x2 := hk1.cell (i := 2) rfl
      clear he hk1 c0 c1 c2
      cases hp : q ⟨d0, d1, d2⟩ with
      | false =>
        have hd : ¬ d2 ≤ most := of_decide_eq_false (HQd.out.trans hp)
        have HT2 : Box ((((l.take (k + 1)).filter q).map DepM.eg) = ms) := ⟨by rw [HT.out, if_neg (by rw [hp]; simp), List.append_nil]⟩
        have hd2 : decide (d2 ≤ most) = false := decide_eq_false hd
        clear hp HQd hd
        go_wp2_with fail
        go_roundw
        case rel => exact ⟨k + 1, _, by omega, rfl, by go_num, ⟨by rw [HT2.out]; exact HE1.out⟩⟩
        case measure => simp [RowKit.intOf]; omega
      | true =>
        have hd : d2 ≤ most := of_decide_eq_true (HQd.out.trans hp)
        have HT2 : Box ((((l.take (k + 1)).filter q).map DepM.eg) = ms ++ [⟨d0, d1⟩]) := ⟨by rw [HT.out, if_pos hp]; rfl⟩
        have hd2 : decide (d2 ≤ most) = true := decide_eq_true hd
        have hbs := HE1.out.below.size
        have hown2 := HE1.out.own.alloc (.cells #[.int .i64 d0, .int .i64 d1] 46)
        clear hp HQd hd
        go_wp2_with (at_builtin; go_must (refine wpList_append_own _ rfl _ _ 42 rfl w.heap.size 46 i0 _ 2 16 Try.underlying42 hi0 hz0 hz1 hz2 rfl (by decide) _ _ _ rfl hown2 ⟨W.heap.size, 0, none⟩ 1 1 [.int .i64 d0, .int .i64 d1] rfl rfl (cells_new W [.int .i64 d0, .int .i64 d1] 46) (by simp [Value.oneCell']) (by unfold maxLen; omega) (by omega) (by simp; omega) ?_))
        intro v' w3 hown3 hgrow _
        have HB3 : Box (Below w.heap.size w w3) := ⟨(HE1.out.below.alloc hbs _).grown hgrow (by simp; omega) (fun b hb => (HE1.out.own.lt b hb).1)⟩
        have HO := box hown3
        clear hown3 hgrow hown2
        go_wp2_with fail
        go_roundw
        case rel =>
          refine ⟨k + 1, _, by omega, rfl, by go_num, ⟨⟨HB3.out, ?_⟩⟩⟩
          rw [HT2.out, egVals_append, List.length_append]
          exact HO.out
        case measure => simp [RowKit.intOf]; omega
    · have HEn : Box (DepM.EW w ((l.filter q).map DepM.eg) v wr) := ⟨by
        have h1 := HE.out
        rwa [List.take_of_length_le (by have := HN.out; omega)] at h1⟩
      obtain ⟨eo, ec, rfl, _, hat, _, _⟩ := EgsAt.own HEn.out.own
      have HG := box (graphOrder_any 12 ((l.filter q).map DepM.eg) eo ec wr hat (by have := DepM.keep_len l N q; rw [List.take_of_length_le (by have := HN.out; omega)] at this; omega))
      obtain ⟨en, Hen⟩ : ∃ x, Box (((l.filter q).map DepM.eg).length = x) := ⟨_, ⟨rfl⟩⟩
      rw [Hen.out] at HG ⊢
      have HB := box HEn.out.below
      clear hat HE HEn
      go_wp2_with fail
      refine HG.out.mono ?_
      rintro e w2 ⟨hb2, ⟨hx, _⟩ | ⟨_, ho, rfl⟩ | ⟨_, r, v, ho, rfl, hown⟩⟩
      · exact absurd Hc.out hx
      · have HB2 := box (below_tr HB.out hb2); have Ho : Box (GrM.order 12 ((l.filter q).map DepM.eg) = none) := ⟨ho⟩
        clear hb2 ho HG
        go_wp2_with fail
        exact HPost.out _ _ HB2.out (by rw [Ho.out]; rfl)
      · have HB2 := box (below_tr HB.out hb2); have Ho : Box (GrM.order 12 ((l.filter q).map DepM.eg) = some r) := ⟨ho⟩
        clear hb2 ho HG hown
        go_wp2_with fail
        exact HPost.out _ _ HB2.out (by rw [Ho.out]; rfl)

/-- What order.Faults answers. -/
def StoL.FaultsPost (s : StoL) (w : World) (e : Ending) (w' : World) : Prop :=
  Below w.heap.size w w' ∧ ((¬ s.Ok ∧ ∃ c : Int, c ≠ 0 ∧ e = .returned (.tuple #[.agg #[.bool false, .bool false, .bool false], .int .i64 c])) ∨
    (s.Ok ∧ e = .returned (.tuple #[.agg #[.bool (s.loop 1), .bool (s.loop 2), .bool (s.loop 3)], .int .i64 0])))
set_option maxRecDepth 20000 in
set_option maxHeartbeats 8000000 in
theorem orderFaults_any (s : StoL) (w : World) (h : StoAt w s) (hsm : ∀ t ∈ s.tls, t.gs.length ≤ 1048576) :
    Calls Try.prog 16 #[.agg #[.slice s.ta s.tls.length s.tc, .slice s.ra s.vrs.length s.rc]] w (s.FaultsPost w) := by
  have HC := box (fun wx (hb : Below w.heap.size w wx) => orderDeps_any s wx (h.below hb (Nat.le_refl _)) hsm)
  have HT : Box (∀ (l : List DepM), l = s.told → s.Ok → l.length ≤ 100000000) := ⟨fun l hl hok => by
    have h1 : s.told.length ≤ 432 := DepM.few (DepM.compact_nodup (DepM.sorted_pair _)) (fun d hd => by
      have := (hok.fit (StoL.mem_told.1 hd)).1; omega)
    rw [hl]; omega⟩
  obtain ⟨n, HN⟩ : ∃ n, Box (s.tls.length = n) := ⟨_, ⟨rfl⟩⟩
  obtain ⟨m, HM⟩ : ∃ m, Box (s.vrs.length = m) := ⟨_, ⟨rfl⟩⟩
  rw [HN.out, HM.out] at HC ⊢
  clear h hsm
  go_enter Try.func16, Try.ntmps16
  go_upto_region 1 with (fail)
  refine name_world (fun W => Below w.heap.size w W ∧ W.heap.size = w.heap.size + 2 ∧ Blk W w.heap.size 25 [.slice s.ta n s.tc, .slice s.ra m s.rc] ∧ Blk W (w.heap.size + 1) 39 [.bool false, .bool false, .bool false]) ?_ ?_
  · refine ⟨((Below.refl _ _).alloc (Nat.le_refl _) _).alloc (by simp) _, by simp, (Blk.new w _ _).alloc _, ?_⟩
    exact Blk.new' (by simp) [.bool false, .bool false, .bool false] _
  rintro W ⟨hb, hz, hs, hf⟩
  have HB := box hb; have HF := box hf
  have p0 := hs.cell (i := 0) rfl
  have p1 := hs.cell (i := 1) rfl
  have HZ := box hz
  clear hb hz hs hf
  go_wp2_with fail
  refine (HC.out _ HB.out).mono ?_
  rintro e w1 ⟨hb, ⟨hno, c, hc0, hc11, rfl⟩ | ⟨hok, v, rfl, hown⟩⟩
  · have HB1 : Box (Below w.heap.size w w1) := ⟨below_tr HB.out hb⟩
    have HF1 := box (HF.out.after hb)
    have q1 : (c == 0) = false := by simpa using hc0
    have q2 : (c != 0) = true := by simpa using hc0
    have HNo := box (And.intro hno hc0)
    have f0 := HF1.out.cell (i := 0) rfl
    have f1 := HF1.out.cell (i := 1) rfl
    have f2 := HF1.out.cell (i := 2) rfl
    have z0 := HF1.out.frozen 0
    have z1 := HF1.out.frozen 1
    have z2 := HF1.out.frozen 2
    clear hb hno hc0 hc11 p0 p1
    go_wp2_with fail
    have HF2 := ((HF1.out.set 0 (.bool false)).set 1 (.bool false)).set 2 (.bool false)
    have g0 := HF2.cell (i := 0) rfl
    have g1 := HF2.cell (i := 1) rfl
    have g2 := HF2.cell (i := 2) rfl
    have HB2 : Below w.heap.size w (((w1.setCell ⟨w.heap.size + 1, 0, none⟩ (.bool false)).setCell ⟨w.heap.size + 1, 1, none⟩ (.bool false)).setCell ⟨w.heap.size + 1, 2, none⟩ (.bool false)) := ((HB1.out.setCell (by simp) _).setCell (by simp) _).setCell (by simp) _
    exact bodyPost_ret (v := .tuple #[.agg #[.bool false, .bool false, .bool false], .int .i64 c]) (by simp [results, Try.results16, go_sem, g0, g1, g2]) rfl ⟨HB2, Or.inl ⟨HNo.out.1, c, HNo.out.2, rfl⟩⟩
  · have HB1 : Box (Below w.heap.size w w1) := ⟨below_tr HB.out hb⟩
    have HF1 := box (HF.out.after hb)
    have HOk := box hok
    obtain ⟨ao, cap, rfl, _, hat, _, _⟩ := DpsAt.own hown
    have hl := HT.out _ rfl hok
    have HLo := box (fun most wx (hb : Below w1.heap.size w1 wx) => depLoop_any s.told most ao cap wx (hat.below hb (Nat.le_refl _)) hl (hok.check most))
    have HLe : Box (∀ most, (GrM.order 12 ((s.told.filter fun d => decide (d.kind ≤ most)).map DepM.eg)).isNone = s.loop most) := ⟨fun most => rfl⟩
    clear hb hok hown hat hl p0 p1 HC HT
    obtain ⟨tl, HTl⟩ : ∃ tl, Box (s.told.length = tl) := ⟨_, ⟨rfl⟩⟩
    rw [HTl.out] at HLo ⊢
    go_wp2_with fail
    refine (HLo.out 1 w1 (Below.refl _ _)).mono ?_
    rintro e w2 ⟨hb2, rfl⟩
    have HB2 := box hb2
    clear hb2
    rw [HLe.out]
    go_wp2_with fail
    refine (HLo.out 2 w2 HB2.out).mono ?_
    rintro e w3 ⟨hb3, rfl⟩
    have HB3 := box (below_tr HB2.out hb3)
    clear hb3
    rw [HLe.out]
    go_wp2_with fail
    refine (HLo.out 3 w3 HB3.out).mono ?_
    rintro e w4 ⟨hb4, rfl⟩
    have HB4 := box (below_tr HB3.out hb4)
    clear hb4
    rw [HLe.out]
    have HF4 := box (HF1.out.after HB4.out)
    have f0 := HF4.out.cell (i := 0) rfl
    have f1 := HF4.out.cell (i := 1) rfl
    have f2 := HF4.out.cell (i := 2) rfl
    have z0 := HF4.out.frozen 0
    have z1 := HF4.out.frozen 1
    have z2 := HF4.out.frozen 2
    go_wp2_with fail
    have HF2 := ((HF4.out.set 0 (.bool (s.loop 1))).set 1 (.bool (s.loop 2))).set 2 (.bool (s.loop 3))
    have g0 := HF2.cell (i := 0) rfl
    have g1 := HF2.cell (i := 1) rfl
    have g2 := HF2.cell (i := 2) rfl
    have HB5 : Below w.heap.size w (((w4.setCell ⟨w.heap.size + 1, 0, none⟩ (.bool (s.loop 1))).setCell ⟨w.heap.size + 1, 1, none⟩ (.bool (s.loop 2))).setCell ⟨w.heap.size + 1, 2, none⟩ (.bool (s.loop 3))) := (((below_tr HB1.out HB4.out).setCell (by simp) _).setCell (by simp) _).setCell (by simp) _
    exact bodyPost_ret (v := .tuple #[.agg #[.bool (s.loop 1), .bool (s.loop 2), .bool (s.loop 3)], .int .i64 0]) (by simp [results, Try.results16, go_sem, g0, g1, g2]) rfl ⟨HB5, Or.inr ⟨HOk.out, rfl⟩⟩
end Go.Proofs.Ytgkclgmekbgjmaa
