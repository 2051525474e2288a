/- run.Kinds: what it computes. -/
import Derived.Test.YtnnkejolfhhmlaaGreatKindsW
import Derived.Test.YtnnkejolfhhmlaaGreatRunCheck
import Derived.Deep.AppendLies
import Derived.Deep.DeepCutAuto
namespace Go.Proofs.YtnnkejolfhhmlaaGreat
open Go.RowKit Go.Lib

theorem Tryz.infoInt : (Tryz.prog.info? 3).map (fun i => (i.zero, i.size, i.bytes)) = some (some (.int .i64 0), 1, 8) := by kernel_rfl

def KindsM.out (l : List OpM) : Value :=
  if RunM.check l = 0 then .tuple #[.agg #[.bool (KindsM.run l).rc, .bool (KindsM.run l).cc, .bool (KindsM.run l).sc], .int .i64 0] else .tuple #[.agg #[.bool false, .bool false, .bool false], .int .i64 (RunM.check l)]

def KindsM.Rel (l : List OpM) (w : World) (N : Nat) (t27 : Value) (wr : World) : Prop :=
  ∃ (k : Nat) (st : KSt) (ov : Nat → Bool) (vw vr : Nat → Value), k ≤ l.length ∧ t27 = .int .i64 (k : Int) ∧ (l.drop k).foldl KindsM.step st = KindsM.run l ∧ RunM.go (l.drop k) ov = 0 ∧ KindsM.Inv st ov k ∧ KindsM.KW w N st vw vr wr
theorem KindsM.next {l : List OpM} {w : World} {N k : Nat} {st : KSt} {ov : Nat → Bool} (hk : k < l.length) (hr : (l.drop k).foldl KindsM.step st = KindsM.run l) (hg : RunM.go (l.drop k) ov = 0) (hi : KindsM.Inv st ov k) :
    RunM.bad l[k] = 0 ∧ ov l[k].tx.toNat = false ∧ ∀ (st' : KSt) (vw vr : Nat → Value) (w2 : World), st' = KindsM.step st l[k] → KindsM.KW w N st' vw vr w2 → KindsM.Rel l w N (.int .i64 ((k : Int) + 1)) w2 := by
  rw [List.drop_eq_getElem_cons hk] at hr hg
  unfold RunM.go at hg
  split at hg
  · rename_i hb; exact absurd hg hb
  · rename_i hb
    have hb := Classical.byContradiction hb
    split at hg
    · simp at hg
    · rename_i hv
      refine ⟨hb, by simpa using hv, fun st' vw vr _ e hw => ?_⟩
      subst e
      exact ⟨k + 1, _, _, vw, vr, hk, rfl, by rw [← hr]; rfl, hg, KindsM.inv_step hi hb (by simpa using hv), hw⟩

theorem KindsM.KW_start {w w1 : World} (hs : w.heap.size < w1.heap.size) (hb : Below w.heap.size w w1) (h0 : Blk w1 w.heap.size 34 [.bool false, .bool false, .bool false]) :
    KindsM.KW w w1.heap.size KindsM.start (fun _ => .slice none 0 0) (fun _ => .slice none 0 0)
      ((((w1.alloc (.cells [Value.bool true, .bool true, .bool true].toArray 34)).alloc (.cells (Tab 12 fun _ => Value.int .i64 0).toArray 70)).alloc (.cells (Tab 20 fun _ => Value.slice none 0 0).toArray 71)).alloc (.cells (Tab 12 fun _ => Value.slice none 0 0).toArray 72)) := by
  have n1 := Blk.new w1 [Value.bool true, .bool true, .bool true] 34
  have n2 := Blk.new (w1.alloc (.cells [Value.bool true, .bool true, .bool true].toArray 34)) (Tab 12 fun _ => Value.int .i64 0) 70
  have n3 := Blk.new ((w1.alloc (.cells [Value.bool true, .bool true, .bool true].toArray 34)).alloc (.cells (Tab 12 fun _ => Value.int .i64 0).toArray 70)) (Tab 20 fun _ => Value.slice none 0 0) 71
  have n4 := Blk.new (((w1.alloc (.cells [Value.bool true, .bool true, .bool true].toArray 34)).alloc (.cells (Tab 12 fun _ => Value.int .i64 0).toArray 70)).alloc (.cells (Tab 20 fun _ => Value.slice none 0 0).toArray 71)) (Tab 12 fun _ => Value.slice none 0 0) 72
  simp only [World.size_alloc] at n2 n3 n4
  refine ⟨hs, (((h0.alloc _).alloc _).alloc _).alloc _, ((n1.alloc _).alloc _).alloc _, (n2.alloc _).alloc _, n3.alloc _, n4, ?_, ?_⟩
  · have := ((((Fam.nil w1 w.heap.size 32 3 1).alloc (.cells [Value.bool true, .bool true, .bool true].toArray 34)).alloc (.cells (Tab 12 fun _ => Value.int .i64 0).toArray 70)).alloc (.cells (Tab 20 fun _ => Value.slice none 0 0).toArray 71)).alloc (.cells (Tab 12 fun _ => Value.slice none 0 0).toArray 72)
    have e1 : KindsM.vF (fun _ => .slice none 0 0) (fun _ => .slice none 0 0) = fun _ => .slice none 0 0 := by funext i; simp [KindsM.vF]
    have e2 : KindsM.KF KindsM.start = fun _ => [] := by funext i; simp [KindsM.KF, KindsM.start]
    rw [e1, e2]
    exact this
  · exact (((hb.alloc (by omega) _).alloc (by rw [World.size_alloc]; omega) _).alloc (by simp only [World.size_alloc]; omega) _).alloc (by simp only [World.size_alloc]; omega) _

set_option maxRecDepth 100000 in
set_option maxHeartbeats 60000000 in
theorem kinds_any (l : List OpM) (ao : Option Addr) (cap : Nat) (w : World) (h : OpsAt w ao l) (hf : RunM.Fits l) :
    Calls Tryz.prog 8 #[.slice ao l.length cap] w fun e w' => e = .returned (KindsM.out l) ∧ Below w.heap.size w w' := by
  have H := box h; have Hf := box hf
  have hfl := hf.1
  clear h hf
  go_enter Tryz.func8, Tryz.ntmps8
  go_wp2_with fail
  refine (runCheck_any l ao cap _ (H.out.below ((Below.refl _ _).alloc (Nat.le_refl _) _) (Nat.le_refl _)) Hf.out).mono ?_
  rintro e w1 ⟨rfl, hb1⟩
  have hB1 := (Blk.new w [.bool false, .bool false, .bool false] 34).after hb1
  have HB1 := box (((Below.refl w.heap.size w).alloc (Nat.le_refl _) (.cells #[.bool false, .bool false, .bool false] 34)).trans (hb1.mono (by simp)))
  have HK1 := box hB1
  have hs1 := hB1.lt
  clear hb1 hB1
  obtain ⟨c, HC⟩ : ∃ c, Box (RunM.check l = c) := ⟨_, ⟨rfl⟩⟩
  rw [HC.out]
  by_cases h0 : c = 0
  case neg =>
    have g1 : (c == 0) = false := by simp [h0]
    have g2 : (c != 0) = true := by simp [h0]
    have c0 := HK1.out.cell (i := 0) rfl
    have c1 := HK1.out.cell (i := 1) rfl
    have c2 := HK1.out.cell (i := 2) rfl
    have f0 := HK1.out.frozen 0
    have f1 := HK1.out.frozen 1
    have f2 := HK1.out.frozen 2
    have H0 := box h0; clear h0
    go_wp2_with fail
    refine bodyPost_ret (v := .tuple #[.agg #[.bool false, .bool false, .bool false], .int .i64 c]) (by simp [results, Tryz.results8, go_sem, c0, c1, c2]) rfl ⟨?_, ?_⟩
    · rw [KindsM.out, HC.out, if_neg H0.out]
    · exact ((HB1.out.setCell (Nat.le_refl _) _).setCell (Nat.le_refl _) _).setCell (Nat.le_refl _) _
  subst h0
  have HG : Box (RunM.go l (fun _ => false) = 0) := ⟨by
    have := HC.out
    unfold RunM.check at this
    split at this
    · simp at this
    · exact this⟩
  go_wp2_with fail
  obtain ⟨N, HN⟩ : ∃ N, Box (w1.heap.size = N) := ⟨_, ⟨rfl⟩⟩
  rw [HN.out]
  go_loopw [27] (fun t27 wr => KindsM.Rel l w N t27 wr) (fun t27 _ => l.length - (intOf t27).toNat)
  case atStart =>
    rw [← HN.out]
    exact ⟨0, KindsM.start, fun _ => false, fun _ => .slice none 0 0, fun _ => .slice none 0 0, Nat.zero_le _, rfl, rfl, HG.out, KindsM.inv_start, KindsM.KW_start hs1 HB1.out HK1.out⟩
  case round =>
    obtain ⟨k, st, ov, vw, vr, hk, rfl, hrun, hgo, hinv, hkw⟩ := hrel
    by_cases hlt : k < l.length
    case neg =>
      have c0 := hkw.b1.cell (i := 0) rfl
      have c1 := hkw.b1.cell (i := 1) rfl
      have c2 := hkw.b1.cell (i := 2) rfl
      have d0 := hkw.b0.cell (i := 0) rfl
      have d1 := hkw.b0.cell (i := 1) rfl
      have d2 := hkw.b0.cell (i := 2) rfl
      have f0 := hkw.b0.frozen 0
      have f1 := hkw.b0.frozen 1
      have f2 := hkw.b0.frozen 2
      have HKW := box hkw
      have HR : Box (KindsM.run l = st) := ⟨by rw [← hrun, List.drop_of_length_le (by omega)]; rfl⟩
      clear hkw hrun hgo hinv
      go_wp2_with fail
      refine bodyPost_ret (v := .tuple #[.agg #[.bool st.rc, .bool st.cc, .bool st.sc], .int .i64 0]) (by simp [results, Tryz.results8, go_sem, d0, d1, d2]) rfl ⟨?_, ?_⟩
      · rw [KindsM.out, HC.out, if_pos rfl, HR.out]
      · exact ((HKW.out.below.setCell (Nat.le_refl _) _).setCell (Nat.le_refl _) _).setCell (Nat.le_refl _) _
    obtain ⟨hbad, hov, hnext⟩ := KindsM.next (w := w) (N := N) hlt hrun hgo hinv
    obtain ⟨b1, b2, b3, b4, b5, b6, b7⟩ := RunM.bad_zero hbad
    obtain ⟨b, off, rfl, hb, hrow⟩ := ((H.out.below hkw.below (Nat.le_refl _)).resolve_left (by intro h; rw [h] at hlt; simp at hlt))
    obtain ⟨hc0, hc1, hc2⟩ := hrow k hlt
    have l0 := hkw.b0.lt; have l1 := hkw.b1.lt; have l2 := hkw.b2.lt; have l3 := hkw.b3.lt; have l4 := hkw.b4.lt
    have Hnext := box hnext
    have HKW := box hkw
    have Hinv := box hinv
    clear hbad hov hnext hkw hinv hrun hgo hrow
    generalize l[k] = o at *
    obtain ⟨tx, kind, item⟩ := o
    simp only at hc0 hc1 hc2 b1 b2 b3 b4 b5 b6 b7
    obtain ⟨x, rfl⟩ := Int.eq_ofNat_of_zero_le b1
    obtain ⟨it, rfl⟩ := Int.eq_ofNat_of_zero_le b3
    have hx : x < 12 := by omega
    have hit : it < 20 := by omega
    have hkind : kind = 1 ∨ kind = 2 ∨ kind = 3 ∨ kind = 4 := by omega
    clear b1 b2 b3 b4 b5 b6
    have Hb7 := box b7
    clear b7
    rcases hkind with rfl | rfl | rfl | rfl
    · as_aux_lemma => -- a Read
      obtain ⟨wao, wcap, hvw, hel, hrc, hrn⟩ := natRow_at (HKW.out.ownW hit)
      have hcw := HKW.out.b3.tabCell hit
      rw [hvw] at hcw
      have hlw := Hinv.out.lw it
      clear hrn
      obtain ⟨Bo, HBo⟩ : ∃ Bo, Box (wr.heap.size = Bo) := ⟨_, ⟨rfl⟩⟩
      by_cases hn0 : (st.wr it).length = 0
      · have q : decide (0 < (st.wr it).length) = false := decide_eq_false (by omega)
        have HS : Box (KindsM.step st ⟨(x : Int), 1, (it : Int)⟩ = st) := ⟨by
          have : st.wr it = [] := List.eq_nil_of_length_eq_zero hn0
          simp [KindsM.step, KindsM.put, KindsM.see, this]⟩
        clear hn0
        go_wp2_with fail
        go_roundw
        case rel => exact Hnext.out _ _ _ _ HS.out.symm (HKW.out.alloc _)
        case measure => simp [intOf]; omega
      have q : decide (0 < (st.wr it).length) = true := decide_eq_true (by omega)
      have hn1 : 1 ≤ (st.wr it).length := by omega
      obtain ⟨g, rfl, hg, hcg⟩ := hel ((st.wr it).length - 1) (by omega)
      have hlast : (st.wr it).getLast? = some ((st.wr it)[(st.wr it).length - 1]'(by omega)) := by
        rw [List.getLast?_eq_getElem?, List.getElem?_eq_getElem]
      have hm := Hinv.out.w it _ (List.mem_of_getLast? hlast)
      have Hlast := box hlast
      have ht := hm.1
      clear hel hm hlast
      generalize ((st.wr it)[(st.wr it).length - 1]'(by omega)) = t at *
      have Hvw := box hvw
      clear hvw
      generalize (st.wr it).length = n at *
      have ce := HKW.out.b2.tabCell ht
      have c2 := HKW.out.b1.cell (i := 2) rfl
      have f2 := HKW.out.b1.frozen 2
      obtain ⟨ev, HEV⟩ : ∃ ev, Box (st.en t = ev) := ⟨_, ⟨rfl⟩⟩
      rw [HEV.out] at ce
      obtain ⟨sv, HSV⟩ : ∃ sv, Box (st.sc = sv) := ⟨_, ⟨rfl⟩⟩
      obtain ⟨cv, HCV⟩ : ∃ cv, Box (st.cc = cv) := ⟨_, ⟨rfl⟩⟩
      rw [HSV.out] at c2
      by_cases htx : t = x
      · have q1 : ((t : Int) == (x : Int)) = true := by simp; omega
        have q2 : ((t : Int) != (x : Int)) = false := by simp; omega
        have HS : Box (∀ b, b = sv → KindsM.step st ⟨(x : Int), 1, (it : Int)⟩ = { st with sc := b }) := ⟨fun b hb => by
          rw [hb, ← HSV.out]
          simp [KindsM.step, KindsM.put, KindsM.see, Hlast.out, htx, KindsM.opn]⟩
        clear htx hn0
        cases sv with
        | true =>
          go_wp2_with fail
          go_roundw
          case rel => exact Hnext.out _ _ _ _ (HS.out _ rfl).symm ((HKW.out.sc _).alloc _)
          case measure => simp [intOf]; omega
        | false =>
          go_wp2_with fail
          go_roundw
          case rel => exact Hnext.out _ _ _ _ (HS.out _ rfl).symm ((HKW.out.sc _).alloc _)
          case measure => simp [intOf]; omega
      have q1 : ((t : Int) == (x : Int)) = false := by simp; omega
      have q2 : ((t : Int) != (x : Int)) = true := by simp; omega
      have HS : Box (KindsM.step st ⟨(x : Int), 1, (it : Int)⟩ = { st with sc := sv && !(ev == 0), cc := cv && !(ev == 0), rd := upd st.rd x (st.rd x ++ [t]) }) := ⟨by
        rw [← HSV.out, ← HCV.out, ← HEV.out]
        have htb : (t != x) = true := by simp [htx]
        simp [KindsM.step, KindsM.put, KindsM.see, Hlast.out, htx, KindsM.opn, htb]⟩
      clear htx hn0
      go_upto_region 16 with (fail)
      refine name_world (fun W => KindsM.KW w N st vw vr W ∧ Blk W wr.heap.size 30 [.int .i64 (x : Int), .int .i64 1, .int .i64 (it : Int)]) ⟨HKW.out.alloc _, Blk.new _ _ _⟩ ?_
      rintro W ⟨hw, hbw⟩
      rw [HBo.out] at hbw ⊢
      have HW := box hw; have HBW := box hbw
      have c1 := hw.b1.cell (i := 1) rfl
      have c2 := hw.b1.cell (i := 2) rfl
      rw [HSV.out] at c2
      rw [HCV.out] at c1
      have f1 := hw.b1.frozen 1
      have f2 := hw.b1.frozen 2
      clear hw hbw hc0 hc1 hc2 hcw hcg ce
      go_cut [] (fun wx => ∃ s, s = (sv && !(ev == 0)) ∧ wx = W.setCell ⟨N, 2, none⟩ (.bool s))
      case first =>
        cases sv with
        | true => go_wp2_with fail; go_meet; exact ⟨_, by simp, rfl⟩
        | false => go_wp2_with fail; go_meet; exact ⟨_, by simp, rfl⟩
      case rest =>
        obtain ⟨s1, hs1e, rfl⟩ := hcut
        have Hs1 := box hs1e
        clear hs1e
        have HW1 := box (HW.out.sc s1)
        have HBW1 := box (HBW.out.other (p := ⟨N, 2, none⟩) (by have := HBo.out; show Bo ≠ N; omega) (.bool s1))
        clear c1 c2 f1 f2
        generalize W.setCell ⟨N, 2, none⟩ (.bool s1) = W2 at *
        have c1 := HW1.out.b1.cell (i := 1) rfl
        have f1 := HW1.out.b1.frozen 1
        have o1 := HBW1.out.cell (i := 1) rfl
        have o0 := HBW1.out.cell (i := 0) rfl
        simp only at c1
        rw [HCV.out] at c1
        go_upto_region 18 with (fail)
        go_cut [] (fun wx => ∃ s, s = (cv && !(ev == 0)) ∧ wx = W2.setCell ⟨N, 1, none⟩ (.bool s))
        case first =>
          cases cv with
          | true => go_wp2_with fail; go_meet; exact ⟨_, by simp, rfl⟩
          | false => go_wp2_with fail; go_meet; exact ⟨_, by simp, rfl⟩
        case rest =>
        obtain ⟨s2, hs2e, rfl⟩ := hcut
        have Hs2 := box hs2e
        clear hs2e c1 f1 o1 o0
        have HW3 := box (HW1.out.cc s2)
        have HBW3 := box (HBW1.out.other (p := ⟨N, 1, none⟩) (by have := HBo.out; show Bo ≠ N; omega) (.bool s2))
        clear HW HBW HW1 HBW1
        generalize W2.setCell ⟨N, 1, none⟩ (.bool s2) = W at *
        have HW := HW3; have HBW := HBW3
        clear HW3 HBW3
        have d0 := HBW.out.cell (i := 0) rfl
        have dr := HW.out.b4.tabCell hx
        have fr := HW.out.b4.frozen x
        have ownr : W.ownsRow w.heap.size 3 1 (vr x) (st.rd x).length (natVals (st.rd x)) := HW.out.ownR hx
        have e3 := HW.out.b4.lt
        have e5 := HBW.out.lt
        have eb := HW.out.below.size
        have hlr : (st.rd x).length ≤ 9000000000000 := by have := Hinv.out.lr x; omega
        obtain ⟨vx, HVX⟩ : ∃ vx, Box (vr x = vx) := ⟨_, ⟨rfl⟩⟩
        rw [HVX.out] at dr ownr
        obtain ⟨i0, hi0, hz0, hz1, hz2⟩ := info_parts Tryz.infoInt
        have hx0 : (0 : Int) ≤ (x : Int) := by omega
        have hx1 : (x : Int) < 12 := by omega
        have a1 : vx.ownBlock ≠ some Bo := HBW.out.ne_own ownr (by decide)
        have a2 : vx.ownBlock ≠ some (N + 3) := HW.out.b4.ne_own ownr (by decide)
        have e5' : Bo < W.drew.heap.size := e5
        have e3' : N + 3 < W.drew.heap.size := e3
        go_upto_region 19 with (fail)
        go_cut [] (fun wx => ∃ v', KindsM.KW w N { st with sc := s1, cc := s2, rd := upd st.rd x (st.rd x ++ [t]) } vw (upd vr x v') wx ∧ Blk wx Bo 30 [.int .i64 (x : Int), .int .i64 1, .int .i64 (it : Int)])
        case first => as_aux_lemma =>
          go_region_law ((refine step_append_lies _ (by rfl) _ _ _ (by rfl) w.heap.size 3 i0 _ 1 8 Tryz.underlying23 hi0 hz0 hz1 hz2 rfl (by omega) vx _ _ (by rfl) ((ownr.alloc _).drew) ⟨W.heap.size, 0, none⟩ 1 1 [.int .i64 (t : Int)] (by rfl) (by rfl) (World.news_of_block (cs := #[.int .i64 (t : Int)]) (t := 3) (fr := (0, 0)) (heap_alloc_new W _)) (by simp [Value.oneCell']) (by omega) (by unfold maxLen; omega) (by omega) (by simp; omega) (W.heap.size + 1) (by simp) ?_; intro gg gcap w2 hown2 hgrow hat hlt2; have g0 := (HBW.out.alloc _).drew.grown hgrow a1 |>.cell (i := 0) rfl; have g1' := ((HW.out.b4.alloc _).drew.grown hgrow a2); have g1 := g1'.tabCell hx; have g2 := g1'.frozen x; rw [HVX.out] at g1))
          all_goals
            go_wp2_with fail
            go_meet
            have hrow := (HW.out.alloc (.cells #[.int .i64 (t : Int)] 3)).drew
            exact ⟨_, hrow.rowR' hx hown2 (by rw [HVX.out]; exact hgrow) (by rw [HVX.out]; exact hat.imp id (fun h => by rw [h]; exact (World.size_alloc _ _).symm)), ((HBW.out.alloc _).drew.grown hgrow a1).other (by show Bo ≠ N + 3; have := HBo.out; omega) _⟩
        case rest =>
        obtain ⟨v', hw, hbw⟩ := hcut
        have HW5 := box hw; have HBW5 := box hbw
        have d1 := hbw.cell (i := 1) rfl
        clear hw hbw d0 dr fr ownr
        go_wp2_with fail
        go_roundw
        case rel => exact Hnext.out _ _ _ _ (by rw [HS.out, Hs1.out, Hs2.out]) HW5.out
        case measure => simp [intOf]; omega
    · as_aux_lemma => -- a Write
      obtain ⟨wao, wcap, hvw, hel, hrc, hrn⟩ := natRow_at (HKW.out.ownW hit)
      have hcw := HKW.out.b3.tabCell hit
      rw [hvw] at hcw
      have hlw := Hinv.out.lw it
      clear hrn
      obtain ⟨Bo, HBo⟩ : ∃ Bo, Box (wr.heap.size = Bo) := ⟨_, ⟨rfl⟩⟩
      by_cases hn0 : (st.wr it).length = 0
      · have q : decide (0 < (st.wr it).length) = false := decide_eq_false (by omega)
        have HS : Box ({ st with wr := upd st.wr it (st.wr it ++ [x]) } = KindsM.step st ⟨(x : Int), 2, (it : Int)⟩) := ⟨by
          have : st.wr it = [] := List.eq_nil_of_length_eq_zero hn0
          simp [KindsM.step, KindsM.put, KindsM.see, this]⟩
        clear hn0
        clear hel
        have Hvw := box hvw
        clear hvw
        generalize (st.wr it).length = n at hcw q hrc hlw Hvw
        go_upto_region 20 with (fail)
        refine name_world (fun W => KindsM.KW w N st vw vr W ∧ Blk W wr.heap.size 30 [.int .i64 (x : Int), .int .i64 2, .int .i64 (it : Int)]) ⟨HKW.out.alloc _, Blk.new _ _ _⟩ ?_
        rintro W ⟨hw, hbw⟩
        rw [HBo.out] at hbw ⊢
        have HW := box hw; have HBW := box hbw
        clear hw hbw hc0 hc1 hc2 hcw
        have d0 := HBW.out.cell (i := 0) rfl
        have d1 := HBW.out.cell (i := 1) rfl
        have d2 := HBW.out.cell (i := 2) rfl
        have dr := HW.out.b3.tabCell hit
        have fr := HW.out.b3.frozen it
        have ownr : W.ownsRow w.heap.size 3 1 (vw it) (st.wr it).length (natVals (st.wr it)) := HW.out.ownW hit
        have e3 := HW.out.b3.lt
        have e5 := HBW.out.lt
        have eb := HW.out.below.size
        have hlr : (st.wr it).length ≤ 9000000000000 := by have := Hinv.out.lw it; omega
        obtain ⟨vx, HVX⟩ : ∃ vx, Box (vw it = vx) := ⟨_, ⟨rfl⟩⟩
        rw [HVX.out] at dr ownr
        obtain ⟨i0, hi0, hz0, hz1, hz2⟩ := info_parts Tryz.infoInt
        have hx0 : (0 : Int) ≤ (it : Int) := by omega
        have hx1 : (it : Int) < 20 := by omega
        have a1 : vx.ownBlock ≠ some Bo := HBW.out.ne_own ownr (by decide)
        have a2 : vx.ownBlock ≠ some (N + 2) := HW.out.b3.ne_own ownr (by decide)
        have e5' : Bo < W.drew.heap.size := e5
        have e3' : N + 2 < W.drew.heap.size := e3
        go_wp2_with fail
        refine wp_meetF (fun wx => ∃ v', KindsM.KW w N { st with wr := upd st.wr it (st.wr it ++ [x]) } (upd vw it v') vr wx) ?_
        apply Exists.intro
        constructor
        · go_region_law ((refine step_append_lies _ (by rfl) _ _ _ (by rfl) w.heap.size 3 i0 _ 1 8 Tryz.underlying23 hi0 hz0 hz1 hz2 rfl (by omega) vx _ _ (by rfl) ((ownr.alloc _).drew) ⟨W.heap.size, 0, none⟩ 1 1 [.int .i64 (x : Int)] (by rfl) (by rfl) (World.news_of_block (cs := #[.int .i64 (x : Int)]) (t := 3) (fr := (0, 0)) (heap_alloc_new W _)) (by simp [Value.oneCell']) (by omega) (by unfold maxLen; omega) (by omega) (by simp; omega) (W.heap.size + 1) (by simp) ?_; intro gg gcap w2 hown2 hgrow hat hlt2; have gB := (HBW.out.alloc _).drew.grown hgrow a1; have g0 := gB.cell (i := 0) rfl; have g3 := gB.cell (i := 2) rfl; have g1' := ((HW.out.b3.alloc _).drew.grown hgrow a2); have g1 := g1'.tabCell hit; have g2 := g1'.frozen it; rw [HVX.out] at g1))
          all_goals
            have hrow := (HW.out.alloc (.cells #[.int .i64 (x : Int)] 3)).drew
            exact ⟨gg, gcap, rfl, ⟨_, hrow.rowW' hit hown2 (by rw [HVX.out]; exact hgrow) (by rw [HVX.out]; exact hat.imp id (fun h => by rw [h]; exact (World.size_alloc _ _).symm))⟩⟩
        intro gg gcap wx hcut
        obtain ⟨v', hw⟩ := hcut
        have HW5 := box hw
        clear hw d0 d1 d2 dr fr ownr
        go_wp2_with fail
        go_roundw
        case rel => exact Hnext.out _ _ _ _ HS.out HW5.out
        case measure => simp [intOf]; omega
      have q : decide (0 < (st.wr it).length) = true := decide_eq_true (by omega)
      have hn1 : 1 ≤ (st.wr it).length := by omega
      obtain ⟨g, rfl, hg, hcg⟩ := hel ((st.wr it).length - 1) (by omega)
      have hlast : (st.wr it).getLast? = some ((st.wr it)[(st.wr it).length - 1]'(by omega)) := by
        rw [List.getLast?_eq_getElem?, List.getElem?_eq_getElem]
      have hm := Hinv.out.w it _ (List.mem_of_getLast? hlast)
      have Hlast := box hlast
      have ht := hm.1
      clear hel hm hlast
      generalize ((st.wr it)[(st.wr it).length - 1]'(by omega)) = t at *
      have Hvw := box hvw
      clear hvw
      have ce := HKW.out.b2.tabCell ht
      have c2 := HKW.out.b1.cell (i := 2) rfl
      have f2 := HKW.out.b1.frozen 2
      obtain ⟨ev, HEV⟩ : ∃ ev, Box (st.en t = ev) := ⟨_, ⟨rfl⟩⟩
      rw [HEV.out] at ce
      obtain ⟨sv, HSV⟩ : ∃ sv, Box (st.sc = sv) := ⟨_, ⟨rfl⟩⟩
      rw [HSV.out] at c2
      obtain ⟨op, HOP⟩ : ∃ op, Box (((t != x) && (ev == 0)) = op) := ⟨_, ⟨rfl⟩⟩
      have HS : Box ({ st with sc := sv && !op, wr := upd st.wr it (st.wr it ++ [x]) } = KindsM.step st ⟨(x : Int), 2, (it : Int)⟩) := ⟨by
        rw [← HSV.out, ← HOP.out, ← HEV.out]
        simp [KindsM.step, KindsM.put, KindsM.see, Hlast.out, KindsM.opn]⟩
      generalize (st.wr it).length = n at hcw q hrc hlw hn0 hn1 hcg Hvw
      clear hn0
      go_upto_region 15 with (fail)
      refine name_world (fun W => KindsM.KW w N st vw vr W ∧ Blk W wr.heap.size 30 [.int .i64 (x : Int), .int .i64 2, .int .i64 (it : Int)]) ⟨HKW.out.alloc _, Blk.new _ _ _⟩ ?_
      rintro W ⟨hw, hbw⟩
      rw [HBo.out] at hbw ⊢
      have HW := box hw; have HBW := box hbw
      have ce := hw.b2.tabCell ht
      rw [HEV.out] at ce
      have c2 := hw.b1.cell (i := 2) rfl
      rw [HSV.out] at c2
      have f2 := hw.b1.frozen 2
      have o0 := hbw.cell (i := 0) rfl
      have o1 := hbw.cell (i := 1) rfl
      clear hw hbw hc0 hc1 hc2 hcw hcg
      go_cut [16] (fun s16 wx => s16 = .bool op ∧ W = wx)
      case first =>
        by_cases htx : t = x
        · have q1 : ((t : Int) == (x : Int)) = true := by simp; omega
          have q2 : ((t : Int) != (x : Int)) = false := by simp; omega
          have hop : Box (op = false) := ⟨by rw [← HOP.out]; simp [htx]⟩
          clear htx
          go_wp2_with fail
          go_meet
          exact ⟨by rw [hop.out], rfl⟩
        · have q1 : ((t : Int) == (x : Int)) = false := by simp; omega
          have q2 : ((t : Int) != (x : Int)) = true := by simp; omega
          have hop : Box (op = (ev == 0)) := ⟨by rw [← HOP.out]; simp [htx]⟩
          clear htx
          go_wp2_with fail
          go_meet
          exact ⟨by rw [hop.out], rfl⟩
      case rest =>
      obtain ⟨rfl, rfl⟩ := hcut
      go_upto_region 16 with (fail)
      go_cut [] (fun wx => ∃ s, s = (sv && !op) ∧ wx = W.setCell ⟨N, 2, none⟩ (.bool s))
      case first =>
        cases sv with
        | true => go_wp2_with fail; go_meet; exact ⟨_, by simp, rfl⟩
        | false => go_wp2_with fail; go_meet; exact ⟨_, by simp, rfl⟩
      case rest =>
      obtain ⟨s1, hs1e, rfl⟩ := hcut
      rw [← hs1e] at HS
      have HW1 := box (HW.out.sc s1)
      have HBW1 := box (HBW.out.other (p := ⟨N, 2, none⟩) (by have := HBo.out; show Bo ≠ N; omega) (.bool s1))
      clear hs1e c2 f2 o0 o1 ce HW HBW
      generalize W.setCell ⟨N, 2, none⟩ (.bool s1) = W at *
      have HW := HW1; have HBW := HBW1
      clear HW1 HBW1
      have d0 := HBW.out.cell (i := 0) rfl
      have d1 := HBW.out.cell (i := 1) rfl
      have d2 := HBW.out.cell (i := 2) rfl
      have dr := HW.out.b3.tabCell hit
      have fr := HW.out.b3.frozen it
      have ownr : W.ownsRow w.heap.size 3 1 (vw it) (st.wr it).length (natVals (st.wr it)) := HW.out.ownW hit
      have e3 := HW.out.b3.lt
      have e5 := HBW.out.lt
      have eb := HW.out.below.size
      have hlr : (st.wr it).length ≤ 9000000000000 := by have := Hinv.out.lw it; omega
      obtain ⟨vx, HVX⟩ : ∃ vx, Box (vw it = vx) := ⟨_, ⟨rfl⟩⟩
      rw [HVX.out] at dr ownr
      obtain ⟨i0, hi0, hz0, hz1, hz2⟩ := info_parts Tryz.infoInt
      have hx0 : (0 : Int) ≤ (it : Int) := by omega
      have hx1 : (it : Int) < 20 := by omega
      have a1 : vx.ownBlock ≠ some Bo := HBW.out.ne_own ownr (by decide)
      have a2 : vx.ownBlock ≠ some (N + 2) := HW.out.b3.ne_own ownr (by decide)
      have e5' : Bo < W.drew.heap.size := e5
      have e3' : N + 2 < W.drew.heap.size := e3
      go_wp2_with fail
      refine wp_meetF (fun wx => ∃ v', KindsM.KW w N { st with sc := s1, wr := upd st.wr it (st.wr it ++ [x]) } (upd vw it v') vr wx) ?_
      apply Exists.intro
      constructor
      · go_region_law ((refine step_append_lies _ (by rfl) _ _ _ (by rfl) w.heap.size 3 i0 _ 1 8 Tryz.underlying23 hi0 hz0 hz1 hz2 rfl (by omega) vx _ _ (by rfl) ((ownr.alloc _).drew) ⟨W.heap.size, 0, none⟩ 1 1 [.int .i64 (x : Int)] (by rfl) (by rfl) (World.news_of_block (cs := #[.int .i64 (x : Int)]) (t := 3) (fr := (0, 0)) (heap_alloc_new W _)) (by simp [Value.oneCell']) (by omega) (by unfold maxLen; omega) (by omega) (by simp; omega) (W.heap.size + 1) (by simp) ?_; intro gg gcap w2 hown2 hgrow hat hlt2; have gB := (HBW.out.alloc _).drew.grown hgrow a1; have g0 := gB.cell (i := 0) rfl; have g3 := gB.cell (i := 2) rfl; have g1' := ((HW.out.b3.alloc _).drew.grown hgrow a2); have g1 := g1'.tabCell hit; have g2 := g1'.frozen it; rw [HVX.out] at g1))
        all_goals
          have hrow := (HW.out.alloc (.cells #[.int .i64 (x : Int)] 3)).drew
          exact ⟨gg, gcap, rfl, ⟨_, hrow.rowW' hit hown2 (by rw [HVX.out]; exact hgrow) (by rw [HVX.out]; exact hat.imp id (fun h => by rw [h]; exact (World.size_alloc _ _).symm))⟩⟩
      intro gg gcap wx hcut
      obtain ⟨v', hw⟩ := hcut
      have HW5 := box hw
      clear hw d0 d1 d2 dr fr ownr
      go_wp2_with fail
      go_roundw
      case rel => exact Hnext.out _ _ _ _ HS.out HW5.out
      case measure => simp [intOf]; omega
    · as_aux_lemma => -- a Commit
      obtain ⟨rao, rcap, hvx, hel, hrc, hrn⟩ := natRow_at (HKW.out.ownR hx)
      have h0it : it = 0 := by have := Hb7.out (by omega); omega
      subst h0it
      have hr := HKW.out.b4.tabCell hx
      rw [hvx] at hr
      have hlr := Hinv.out.lr x
      have Hvx := box hvx; have Hel := box hel
      have Hrd := box (fun t ht => (Hinv.out.r x t ht).1)
      clear hvx hel hrn
      obtain ⟨Bo, HBo⟩ : ∃ Bo, Box (wr.heap.size = Bo) := ⟨_, ⟨rfl⟩⟩
      have HO := box (Blk.new wr [.int .i64 (x : Int), .int .i64 3, .int .i64 0] 30)
      go_wp2_with fail
      rw [HBo.out]
      go_loopw [112] (fun t112 w2 => ∃ (j : Nat), j ≤ (st.rd x).length ∧ t112 = .int .i64 (j : Int) ∧ KindsM.KW w N { st with rc := st.rc && ((st.rd x).take j).all (fun t => st.en t == 3) } vw vr w2 ∧ Blk w2 Bo 30 [.int .i64 (x : Int), .int .i64 3, .int .i64 0]) (fun t112 _ => (st.rd x).length - (intOf t112).toNat)
      case atStart => exact ⟨0, Nat.zero_le _, rfl, by simpa using HKW.out.alloc _, by rw [← HBo.out]; exact HO.out⟩
      case round =>
        obtain ⟨j, hj, rfl, hkw2, hbo⟩ := hrel
        have m0 := hkw2.b0.lt; have m1 := hkw2.b1.lt; have m2 := hkw2.b2.lt; have m3 := hkw2.b3.lt; have m4 := hkw2.b4.lt
        have HK2 := box hkw2; have HB2 := box hbo
        have o0 := hbo.cell (i := 0) rfl
        clear hkw2 hbo hc0 hc1 hc2 hr
        by_cases hjl : j < (st.rd x).length
        · obtain ⟨_, _, hv2, hel2, _, _⟩ := natRow_at (HK2.out.ownR hx)
          rw [Hvx.out] at hv2
          simp only [Value.slice.injEq] at hv2
          obtain ⟨rfl, _, rfl⟩ := hv2
          obtain ⟨g, rfl, hg, hcg⟩ := hel2 j hjl
          simp only at hcg
          have ht := Hrd.out _ (List.getElem_mem hjl)
          have HT := box (List.take_succ_eq_append_getElem hjl)
          have c0 := HK2.out.b1.cell (i := 0) rfl
          have f0 := HK2.out.b1.frozen 0
          have ce := HK2.out.b2.tabCell ht
          have HRc := box (fun b => HK2.out.rc b)
          have HOb := box (fun b => HB2.out.other (p := ⟨N, 0, none⟩) (by have := m1; have := HBo.out; have := l1; show Bo ≠ N; omega) (.bool b))
          simp only at c0 ce HRc
          generalize (st.rd x)[j] = t at *
          obtain ⟨rv, HRV⟩ : ∃ rv, Box ((st.rc && ((st.rd x).take j).all (fun t => st.en t == 3)) = rv) := ⟨_, ⟨rfl⟩⟩
          rw [HRV.out] at c0
          obtain ⟨ev, HEV⟩ : ∃ ev, Box (st.en t = ev) := ⟨_, ⟨rfl⟩⟩
          rw [HEV.out] at ce
          clear hel2
          have Hrel : Box (∀ b, b = (rv && (ev == 3)) → KindsM.KW w N { st with rc := st.rc && ((st.rd x).take (j + 1)).all (fun t => st.en t == 3) } vw vr (wr.setCell ⟨N, 0, none⟩ (.bool b))) := ⟨fun b hb => by
            rw [HT.out, List.all_append]
            have := HRc.out b
            rw [hb, ← HRV.out, ← HEV.out] at this
            rw [hb, ← HRV.out, ← HEV.out]
            simpa [Bool.and_assoc] using this⟩
          cases rv with
          | true =>
            go_wp2_with fail
            go_roundw
            case rel => refine ⟨j + 1, hjl, by go_num, Hrel.out _ ?_, HOb.out _⟩; simp
            case measure => simp [intOf]; omega
          | false =>
            go_wp2_with fail
            go_roundw
            case rel => refine ⟨j + 1, hjl, by go_num, Hrel.out _ ?_, HOb.out _⟩; simp
            case measure => simp [intOf]; omega
        · have ce := HK2.out.b2.tabCell hx
          have fe := HK2.out.b2.frozen x
          simp only at ce
          have HF := box (HK2.out.en x 3)
          have HJ := box (show (st.rd x).take j = st.rd x from List.take_of_length_le (by omega))
          go_wp2_with fail
          go_roundw
          case rel =>
            refine Hnext.out _ _ _ _ ?_ HF.out
            simp only [KindsM.step]
            rw [if_pos trivial, HJ.out]; rfl
          case measure => simp [intOf]; omega
    · as_aux_lemma => -- an Abort
      have h0it : it = 0 := by have := Hb7.out (by omega); omega
      subst h0it
      have fe := HKW.out.b2.frozen x
      have ce := HKW.out.b2.tabCell hx
      have hlw := box Hinv.out.lw
      obtain ⟨Bo, HBo⟩ : ∃ Bo, Box (wr.heap.size = Bo) := ⟨_, ⟨rfl⟩⟩
      have HO := box (Blk.new (wr.setCell ⟨N + 1, x, none⟩ (.int .i64 4)) [.int .i64 (x : Int), .int .i64 4, .int .i64 0] 30)
      have HS := box ((HKW.out.en x 4).alloc (.cells [Value.int .i64 (x : Int), .int .i64 4, .int .i64 0].toArray 30))
      go_wp2_with fail
      rw [HBo.out]
      go_loopw [134] (fun t134 w2 => ∃ (j : Nat) (vw2 : Nat → Value), j ≤ 20 ∧ t134 = .int .i64 (j : Int) ∧ KindsM.KW w N (KindsM.abort st x j) vw2 vr w2 ∧ Blk w2 Bo 30 [.int .i64 (x : Int), .int .i64 4, .int .i64 0]) (fun t134 _ => 20 - (intOf t134).toNat)
      case atStart => exact ⟨0, vw, Nat.zero_le _, rfl, by rw [KindsM.abort_zero]; exact HS.out, by rw [← HBo.out]; have := HO.out; rw [World.size_setCell] at this; exact this⟩
      case round =>
        obtain ⟨j, vw2, hj, rfl, hkw2, hbo⟩ := hrel
        have m0 := hkw2.b0.lt; have m1 := hkw2.b1.lt; have m2 := hkw2.b2.lt; have m3 := hkw2.b3.lt; have m4 := hkw2.b4.lt
        have HK2 := box hkw2; have HB2 := box hbo
        clear hkw2 hbo hc0 hc1 hc2 ce fe
        by_cases hjl : j < 20
        · have cr := HK2.out.b3.tabCell hjl
          have hown := HK2.out.ownW hjl
          have ea : (KindsM.abort st x j).wr j = st.wr j := by simp [KindsM.abort]
          rw [ea, natVals_eq, show (st.wr j).length = ((st.wr j).map (fun t : Nat => (t : Int))).length by simp] at hown
          have HC := box (deleteFunc_any ((st.wr j).map (fun t : Nat => (t : Int))) (vw2 j) w.heap.size 27 #[.pointer (some ⟨Bo, 0, none⟩)] (fun z => z == (x : Int)) wr hown
            (by have := hlw.out j; rw [List.length_map]; omega) (fun W hW => closure_tx Bo x W _ _ (HB2.out.grown hW (HB2.out.ne_own hown (by decide)))) (enters_fn Tryz.func27 (by kernel_rfl) rfl))
          clear hown ea
          go_wp2_with fail
          refine HC.out.mono ?_
          rintro e w3 ⟨v', rfl, hat, hown3, hgr⟩
          rw [natFilter, ← natVals_eq, List.length_map] at hown3
          obtain ⟨ao3, cap3, hv3, _⟩ := natRow_at hown3
          have HN2 := box (HK2.out.rowW hjl (v' := v') hown3 hgr (Or.inl hat))
          have hblk := (HK2.out.blocks (k := j) (by omega) (by simpa [KindsM.vF, hjl] using hgr)).2.2.2.1
          have c3 := hblk.tabCell hjl
          have f3 := hblk.frozen j
          have HO3 := box ((HB2.out.grown hgr (HB2.out.ne_own (HK2.out.ownW hjl) (by decide))).other (p := ⟨N + 2, j, none⟩) (by have := HBo.out; have := l3; show Bo ≠ N + 2; omega) v')
          rw [KindsM.abort_succ] at HN2
          rw [hv3] at HN2 HO3 ⊢
          have H3 := box hv3
          clear hown3 hgr hat hblk hv3 cr
          go_wp2_with fail
          go_roundw
          case rel => exact ⟨j + 1, _, hjl, by go_num, HN2.out, HO3.out⟩
          case measure => simp [intOf]; omega
        · have hj20 : j = 20 := by omega
          subst hj20
          have HF : Box (KindsM.KW w N (KindsM.step st ⟨(x : Int), 4, 0⟩) vw2 vr wr) := ⟨HK2.out.congr rfl (fun k hk => by simp [KindsM.step, KindsM.abort, hk]) rfl rfl rfl rfl⟩
          go_wp2_with fail
          go_roundw
          case rel => exact Hnext.out _ _ _ _ rfl HF.out
          case measure => simp [intOf]; omega
end Go.Proofs.YtnnkejolfhhmlaaGreat
