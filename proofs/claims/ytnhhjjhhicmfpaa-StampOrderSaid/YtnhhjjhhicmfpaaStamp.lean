/- stamp.Play: what it computes. -/
import Derived.Test.YtnhhjjhhicmfpaaStampW
import Derived.Test.YtnhhjjhhicmfpaaRunCheck
import Derived.Deep.AppendLies
import Derived.Deep.CutBlock
import Derived.Deep.DeepMust
namespace Go.Proofs.Ytnhhjjhhicmfpaa
open Go.RowKit Go.Lib

theorem Try.infoOp : (Try.prog.info? 25).map (fun i => (i.zero, i.size, i.bytes)) = some (some (.agg #[.int .i64 0, .int .i64 0, .int .i64 0]), 3, 24) := by kernel_rfl
theorem Try.infoI : (Try.prog.info? 3).map (fun i => (i.zero, i.size, i.bytes)) = some (some (.int .i64 0), 1, 8) := by kernel_rfl

def StampM.deads (st : SSt) (n : Nat) : List Int := ((List.range n).filter st.dead).map (fun t : Nat => (t : Int))
/-- What Play leaves. -/
def StampM.Post (skip : Bool) (l : List OpM) (w : World) (e : Ending) (w' : World) : Prop :=
  Below w.heap.size w w' ∧
    ((RunM.check l ≠ 0 ∧ e = .returned (.tuple #[.agg #[.slice none 0 0, .slice none 0 0, .slice none 0 0], .int .i64 (RunM.check l)])) ∨
     (RunM.check l = 0 ∧ ∃ v v1, e = .returned (.tuple #[.agg #[v, v1, .slice none 0 0], .int .i64 0]) ∧
       w'.ownsRow w.heap.size 25 3 v (StampM.run skip l).run.length (opVals (StampM.run skip l).run) ∧
       w'.ownsRow w.heap.size 3 1 v1 (StampM.deads (StampM.run skip l) 12).length (intVals (StampM.deads (StampM.run skip l) 12))))

def StampM.Rel (skip : Bool) (l : List OpM) (w : World) (N : Nat) (t24 : Value) (wr : World) : Prop :=
  ∃ (k : Nat) (st : SSt) (v : Value), k ≤ l.length ∧ t24 = .int .i64 (k : Int) ∧ (l.drop k).foldl (StampM.step skip) st = StampM.run skip l ∧ st.run.length ≤ k ∧
    (∀ i, i < 20 → 0 ≤ st.rd i ∧ st.rd i ≤ 12 ∧ 0 ≤ st.wr i ∧ st.wr i ≤ 12) ∧ StampM.SW w N st v (.slice none 0 0) [] wr

theorem StampM.step_len (skip : Bool) (st : SSt) (o : OpM) : (StampM.step skip st o).run.length ≤ st.run.length + 1 := by
  unfold StampM.step
  repeat' split
  all_goals simp
theorem StampM.step_bnd (skip : Bool) {st : SSt} {o : OpM} (hb : RunM.bad o = 0) (h : ∀ i, i < 20 → 0 ≤ st.rd i ∧ st.rd i ≤ 12 ∧ 0 ≤ st.wr i ∧ st.wr i ≤ 12) : ∀ i, i < 20 → 0 ≤ (StampM.step skip st o).rd i ∧ (StampM.step skip st o).rd i ≤ 12 ∧ 0 ≤ (StampM.step skip st o).wr i ∧ (StampM.step skip st o).wr i ≤ 12 := by
  obtain ⟨b1, b2, b3, b4, _⟩ := RunM.bad_zero hb
  intro i hi
  have h1 := h i hi
  have h2 := h o.item.toNat (by omega)
  unfold StampM.step
  repeat' split
  · exact h1
  · exact h1
  · simp only [upd]; split
    · refine ⟨by omega, by omega, h1.2.2⟩
    · exact h1
  · simp only [upd]; split
    · exact ⟨h1.1, h1.2.1, by omega, by omega⟩
    · exact h1
  · exact h1
  · exact h1
theorem StampM.next {skip : Bool} {l : List OpM} {w : World} {N k : Nat} {st : SSt} (hk : k < l.length) (hc : RunM.check l = 0) (hr : (l.drop k).foldl (StampM.step skip) st = StampM.run skip l) (hlen : st.run.length ≤ k)
    (hb : ∀ i, i < 20 → 0 ≤ st.rd i ∧ st.rd i ≤ 12 ∧ 0 ≤ st.wr i ∧ st.wr i ≤ 12) :
    RunM.bad l[k] = 0 ∧ ∀ (st' : SSt) (v : Value) (w2 : World), st' = StampM.step skip st l[k] → StampM.SW w N st' v (.slice none 0 0) [] w2 → StampM.Rel skip l w N (.int .i64 ((k : Int) + 1)) w2 := by
  have hbad := (RunM.check_ok hc).2.2 l[k] (List.getElem_mem hk)
  refine ⟨hbad, fun st' v w2 e hw => ?_⟩
  subst e
  rw [List.drop_eq_getElem_cons hk] at hr
  exact ⟨k + 1, _, v, hk, rfl, by rw [← hr]; rfl, by have := StampM.step_len skip st l[k]; omega, StampM.step_bnd skip hbad hb, hw⟩
theorem StampM.SW_start {w w1 : World} (hs : w.heap.size < w1.heap.size) (hb : Below w.heap.size w w1) (h0 : Blk w1 w.heap.size 39 [.slice none 0 0, .slice none 0 0, .slice none 0 0]) :
    StampM.SW w w1.heap.size StampM.start (.slice none 0 0) (.slice none 0 0) []
      ((((w1.alloc (.cells [Value.slice none 0 0, .slice none 0 0, .slice none 0 0].toArray 39)).alloc (.cells (Tab 12 fun _ => Value.bool false).toArray 77)).alloc (.cells (Tab 20 fun _ => Value.int .i64 0).toArray 52)).alloc (.cells (Tab 20 fun _ => Value.int .i64 0).toArray 52)) := by
  generalize e1 : Obj.cells [Value.slice none 0 0, .slice none 0 0, .slice none 0 0].toArray 39 = O1
  generalize e2 : Obj.cells (Tab 12 fun _ => Value.bool false).toArray 77 = O2
  generalize e3 : Obj.cells (Tab 20 fun _ => Value.int .i64 0).toArray 52 = O3
  have n1 : Blk (w1.alloc O1) w1.heap.size 39 [.slice none 0 0, .slice none 0 0, .slice none 0 0] := by rw [← e1]; exact Blk.new w1 _ _
  have n2 : Blk ((w1.alloc O1).alloc O2) (w1.heap.size + 1) 77 (Tab 12 fun _ => .bool false) := by rw [← e2]; exact Blk.new' (by simp) _ _
  have n3 : Blk (((w1.alloc O1).alloc O2).alloc O3) (w1.heap.size + 2) 52 (Tab 20 fun _ => .int .i64 0) := by rw [← e3]; exact Blk.new' (by simp) _ _
  have n4 : Blk ((((w1.alloc O1).alloc O2).alloc O3).alloc O3) (w1.heap.size + 3) 52 (Tab 20 fun _ => .int .i64 0) := by rw [← e3]; exact Blk.new' (by simp) _ _
  refine ⟨hs, (((h0.alloc _).alloc _).alloc _).alloc _, ((n1.alloc _).alloc _).alloc _, (n2.alloc _).alloc _, n3.alloc _, n4, World.ownsRow_nil _ _ _ _, World.ownsRow_nil _ _ _ _, ?_⟩
  exact (((hb.alloc (by omega) _).alloc (by rw [World.size_alloc]; omega) _).alloc (by simp only [World.size_alloc]; omega) _).alloc (by simp only [World.size_alloc]; omega) _

theorem index_dead (f : Nat → Bool) : ∀ (k : Nat), k < 12 → ∀ w, (Instr.index 77 (.agg (Tab 12 fun i => Value.bool (f i)).toArray) (.int .i64 (k : Int))).run Try.prog w = .ok (.bool (f k)) w
  | 0, _ => fun w => by kernel_rfl
  | 1, _ => fun w => by kernel_rfl
  | 2, _ => fun w => by kernel_rfl
  | 3, _ => fun w => by kernel_rfl
  | 4, _ => fun w => by kernel_rfl
  | 5, _ => fun w => by kernel_rfl
  | 6, _ => fun w => by kernel_rfl
  | 7, _ => fun w => by kernel_rfl
  | 8, _ => fun w => by kernel_rfl
  | 9, _ => fun w => by kernel_rfl
  | 10, _ => fun w => by kernel_rfl
  | 11, _ => fun w => by kernel_rfl
  | _ + 12, h => absurd h (by omega)
theorem StampM.deads_succ (st : SSt) (j : Nat) : StampM.deads st (j + 1) = StampM.deads st j ++ (if st.dead j = true then [(j : Int)] else []) := by
  unfold StampM.deads
  rw [List.range_succ, List.filter_append, List.map_append]
  congr 1
  by_cases h : st.dead j = true
  · rw [if_pos h]; simp [h]
  · rw [if_neg h]; simp [h]
theorem StampM.deads_len (st : SSt) (j : Nat) : (StampM.deads st j).length ≤ j := by
  unfold StampM.deads
  have := List.length_filter_le st.dead (List.range j)
  simpa using this

set_option maxRecDepth 100000 in
set_option maxHeartbeats 4000000 in
theorem stamp_any (skip : Bool) (l : List OpM) (ao : Option Addr) (cap : Nat) (w : World) (h : OpsAt w ao l) (hf : RunM.Fits l) :
    Calls Try.prog 18 #[.slice ao l.length cap, .bool skip] w (StampM.Post skip l w) := by
  have H := box h; have Hf := box hf
  have hfl := hf.1
  clear h hf
  go_enter Try.func18, Try.ntmps18
  go_wp2_with fail
  refine (runCheck_any l ao cap _ (H.out.below ((Below.refl _ _).alloc (Nat.le_refl _) _) (Nat.le_refl _)) Hf.out).mono ?_
  rintro e w1 ⟨rfl, hb1⟩
  have hB1 := (Blk.new w [.slice none 0 0, .slice none 0 0, .slice none 0 0] 39).after hb1
  have HB1 := box (((Below.refl w.heap.size w).alloc (Nat.le_refl _) (.cells #[.slice none 0 0, .slice none 0 0, .slice none 0 0] 39)).trans (hb1.mono (by simp)))
  have HK1 := box hB1
  have hs1 := hB1.lt
  clear hb1 hB1
  obtain ⟨c, HC⟩ : ∃ c, Box (RunM.check l = c) := ⟨_, ⟨rfl⟩⟩
  rw [HC.out]
  by_cases h0 : c = 0
  case neg =>
    have g1 : (c == 0) = false := by simp [h0]
    have g2 : (c != 0) = true := by simp [h0]
    have c0 := HK1.out.cell (i := 0) rfl
    have c1 := HK1.out.cell (i := 1) rfl
    have c2 := HK1.out.cell (i := 2) rfl
    have f0 := HK1.out.frozen 0
    have f1 := HK1.out.frozen 1
    have f2 := HK1.out.frozen 2
    have H0 := box h0; clear h0
    go_wp2_with fail
    refine bodyPost_ret (v := .tuple #[.agg #[.slice none 0 0, .slice none 0 0, .slice none 0 0], .int .i64 c]) (by simp [results, Try.results18, go_sem, c0, c1, c2]) rfl ⟨?_, Or.inl ⟨?_, ?_⟩⟩
    · exact ((HB1.out.setCell (Nat.le_refl _) _).setCell (Nat.le_refl _) _).setCell (Nat.le_refl _) _
    · rw [HC.out]; exact H0.out
    · rw [HC.out]
  subst h0
  go_wp2_with fail
  obtain ⟨N, HN⟩ : ∃ N, Box (w1.heap.size = N) := ⟨_, ⟨rfl⟩⟩
  rw [HN.out]
  go_loopw [24] (fun t24 wr => StampM.Rel skip l w N t24 wr) (fun t24 _ => l.length - (intOf t24).toNat)
  case atStart =>
    rw [← HN.out]
    exact ⟨0, StampM.start, .slice none 0 0, Nat.zero_le _, rfl, rfl, Nat.le_refl _, by intro i _; simp [StampM.start], StampM.SW_start hs1 HB1.out HK1.out⟩
  case round =>
    obtain ⟨k, st, v, hk, rfl, hrun, hlen, hbnd, hsw⟩ := hrel
    by_cases hlt : k < l.length
    case neg =>
      have HR : Box (StampM.run skip l = st) := ⟨by rw [← hrun, List.drop_of_length_le (by omega)]; rfl⟩
      have HSW := box hsw
      have hb2 := hsw.b2
      clear hsw hrun hbnd
      have Hb2 := box hb2
      clear hb2
      go_wp2_with (refine wpList_load_row rfl 77 (.tmp 8) rfl (N + 1) (by rfl) 77 _ (0, 0) _ Hb2.out Try.underlying77 rfl (by kernel_rfl) ?_)
      have HI := box (index_dead st.dead)
      generalize Value.agg (Tab 12 fun i => Value.bool (st.dead i)).toArray = A at *
      go_loopw [113] (fun t113 w2 => ∃ (j : Nat) (v1 : Value), j ≤ 12 ∧ t113 = .int .i64 (j : Int) ∧ StampM.SW w N st v v1 (StampM.deads st j) w2) (fun t113 _ => 12 - (intOf t113).toNat)
      case atStart => exact ⟨0, _, Nat.zero_le _, rfl, HSW.out⟩
      case round =>
        obtain ⟨j, v1, hj, rfl, hsw2⟩ := hrel
        have HS2 := box hsw2
        have m0 := hsw2.b0.lt; have m1 := hsw2.b1.lt
        by_cases hjl : j < 12
        · have hix := HI.out j hjl
          have c1 := hsw2.b1.cell (i := 1) rfl
          have hdl := StampM.deads_len st j
          have hds := StampM.deads_succ st j
          have hown2 := hsw2.own1.alloc (.cells #[.int .i64 (j : Int)] 3)
          have hbs := hsw2.below.size
          have Hds := box hds
          clear hsw2 hds
          generalize hdv : st.dead j = dv at *
          cases dv with
          | false =>
            clear hown2
            go_wp2_with fail
            go_roundw
            case rel => exact ⟨j + 1, v1, hjl, by go_num, by have h := Hds.out; rw [if_neg (by simp), List.append_nil] at h; rw [h]; exact HS2.out⟩
            case measure => simp [intOf]; omega
          | true =>
            obtain ⟨i0, hi0, hz0, hz1, hz2⟩ := info_parts Try.infoI
            go_wp2_with (at_builtin; go_must (refine wpList_append_own _ rfl _ _ 23 rfl w.heap.size 3 i0 _ 1 8 Try.underlying23 hi0 hz0 hz1 hz2 rfl (by decide) v1 _ _ rfl hown2 ⟨wr.heap.size, 0, none⟩ 1 1 [.int .i64 (j : Int)] rfl rfl (cell_one_new _ _ _) (by simp [Value.oneCell']) (by unfold maxLen; omega) (by omega) (by rw [World.size_alloc]; omega) ?_))
            intro v' w2 hown3 hgrow hv'
            obtain ⟨g, gcap, hve, hg1, hg2, hg3⟩ := ownsRow_shape hown3 hv'
            rw [hve] at hown3 ⊢
            obtain ⟨hk1, hm⟩ := (HS2.out.alloc _).dies hown3 hgrow
            have k1 := hk1.cell (i := 1) rfl
            have k2 := hk1.frozen 1
            have HM := box hm
            clear hown3 hgrow hv' hve hk1 hm hown2 c1
            go_wp2_with fail
            go_roundw
            case rel => exact ⟨j + 1, _, hjl, by go_num, by have h := Hds.out; rw [if_pos (by simp)] at h; rw [h]; exact HM.out⟩
            case measure => simp [intOf]; omega
        · have hj12 : j = 12 := by omega
          subst hj12
          obtain ⟨ao0, cap0, hv0, _⟩ := OpsAt.own hsw2.own
          obtain ⟨ao1, cap1, hv1, _⟩ := IntsAt.own hsw2.own1
          have c0 := hsw2.b1.cell (i := 0) rfl
          have c1 := hsw2.b1.cell (i := 1) rfl
          have c2 := hsw2.b1.cell (i := 2) rfl
          have d0 := hsw2.b0.cell (i := 0) rfl
          have d1 := hsw2.b0.cell (i := 1) rfl
          have d2 := hsw2.b0.cell (i := 2) rfl
          have f0 := hsw2.b0.frozen 0
          have f1 := hsw2.b0.frozen 1
          have f2 := hsw2.b0.frozen 2
          rw [hv0] at c0
          rw [hv1] at c1
          have Hv0 := box hv0; have Hv1 := box hv1
          clear hsw2 hv0 hv1
          go_wp2_with fail
          have a0 := HS2.out.b0.ne_own HS2.out.own (by decide)
          have a1 := HS2.out.b0.ne_own HS2.out.own1 (by decide)
          refine bodyPost_ret (v := .tuple #[.agg #[v, v1, .slice none 0 0], .int .i64 0]) (by rw [Hv0.out, Hv1.out]; simp [results, Try.results18, go_sem, d0, d1, d2]) rfl ⟨?_, Or.inr ⟨HC.out, v, v1, rfl, ?_, ?_⟩⟩
          · exact ((HS2.out.below.setCell (Nat.le_refl _) _).setCell (Nat.le_refl _) _).setCell (Nat.le_refl _) _
          · rw [HR.out]
            exact ownsRow_setCell_other (ownsRow_setCell_other (ownsRow_setCell_other HS2.out.own a0 _) a0 _) a0 _
          · rw [HR.out]
            exact ownsRow_setCell_other (ownsRow_setCell_other (ownsRow_setCell_other HS2.out.own1 a1 _) a1 _) a1 _
    obtain ⟨hbad, hnext⟩ := StampM.next (w := w) (N := N) hlt HC.out hrun hlen hbnd
    obtain ⟨b1, b2, b3, b4, b5, b6, b7⟩ := RunM.bad_zero hbad
    obtain ⟨b, off, rfl, hb, hrow⟩ := ((H.out.below hsw.below (Nat.le_refl _)).resolve_left (by intro h; rw [h] at hlt; simp at hlt))
    obtain ⟨hc0, hc1, hc2⟩ := hrow k hlt
    have l0 := hsw.b0.lt; have l1 := hsw.b1.lt; have l2 := hsw.b2.lt; have l3 := hsw.b3.lt; have l4 := hsw.b4.lt
    have Hnext := box hnext
    have HSW := box hsw
    clear hbad hnext hsw hrun hrow
    generalize l[k] = o at *
    obtain ⟨tx, kind, item⟩ := o
    simp only at hc0 hc1 hc2 b1 b2 b3 b4 b5 b6 b7
    obtain ⟨x, rfl⟩ := Int.eq_ofNat_of_zero_le b1
    obtain ⟨it, rfl⟩ := Int.eq_ofNat_of_zero_le b3
    have hx : x < 12 := by omega
    have hit : it < 20 := by omega
    have hkind : kind = 1 ∨ kind = 2 ∨ 3 ≤ kind := by omega
    obtain ⟨r1, r2, r3, r4⟩ := hbnd it hit
    have Hb7 := box b7
    clear b1 b2 b3 b4 b7 hbnd
    have HvB : Box (v.ownBlock ≠ some wr.heap.size) := ⟨fun h => by have := (HSW.out.own.lt _ h).2; omega⟩
    have cd := HSW.out.b2.tabCell hx
    obtain ⟨dv, HD⟩ : ∃ dv, Box (st.dead x = dv) := ⟨_, ⟨rfl⟩⟩
    rw [HD.out] at cd
    obtain ⟨Bo, HBo⟩ : ∃ Bo, Box (wr.heap.size = Bo) := ⟨_, ⟨rfl⟩⟩
    cases dv with
    | true =>
      have HS : Box (st = StampM.step skip st ⟨(x : Int), kind, (it : Int)⟩) := ⟨by
        unfold StampM.step
        simp only [Int.toNat_natCast]
        rw [if_pos HD.out]⟩
      clear hkind
      go_wp2_with fail
      go_roundw
      case rel => exact Hnext.out _ _ _ HS.out (HSW.out.alloc _)
      case measure => simp [intOf]; omega
    | false =>
      go_upto_block 2 with (fail)
      refine name_world (fun W => StampM.SW w N st v (.slice none 0 0) [] W ∧ Blk W wr.heap.size 25 [.int .i64 (x : Int), .int .i64 kind, .int .i64 (it : Int)]) ⟨HSW.out.alloc _, Blk.new _ _ _⟩ ?_
      rintro W ⟨hw, hbw⟩
      rw [HBo.out] at hbw HvB ⊢
      have HW := box hw; have HBW := box hbw
      clear hw hbw hc0 hc1 hc2 cd
      go_cut [] (fun wx => ∃ st1 o1, StampM.SW w N st1 v (.slice none 0 0) [] wx ∧ Blk wx Bo 25 [.int .i64 o1.tx, .int .i64 o1.kind, .int .i64 o1.item] ∧ { st1 with run := st1.run ++ [o1] } = StampM.step skip st ⟨(x : Int), kind, (it : Int)⟩ ∧ st1.run = st.run)
      case first =>
        have o0 := HBW.out.cell (i := 0) rfl
        have o1 := HBW.out.cell (i := 1) rfl
        have o2 := HBW.out.cell (i := 2) rfl
        have cr := HW.out.b3.tabCell hit
        have cw := HW.out.b4.tabCell hit
        have fr := HW.out.b3.frozen it
        have fw := HW.out.b4.frozen it
        have e1 := HW.out.b4.lt
        obtain ⟨rv, Hrv⟩ : ∃ rv, Box (st.rd it = rv) := ⟨_, ⟨rfl⟩⟩
        obtain ⟨wv, Hwv⟩ : ∃ wv, Box (st.wr it = wv) := ⟨_, ⟨rfl⟩⟩
        rw [Hrv.out] at cr r1 r2
        rw [Hwv.out] at cw r3 r4
        rcases hkind with rfl | rfl | h3
        · by_cases hw1 : wv ≤ (x : Int) + 1
          · have HS : Box (∀ m, m = max rv ((x : Int) + 1) → { { st with rd := upd st.rd it m } with run := st.run ++ [⟨(x : Int), 1, (it : Int)⟩] } = StampM.step skip st ⟨(x : Int), 1, (it : Int)⟩) := ⟨fun m hm => by
              unfold StampM.step
              simp only [Int.toNat_natCast]
              rw [if_neg (by rw [HD.out]; simp), if_neg (by omega), if_pos (by rw [Hwv.out]; exact ⟨by simp, hw1⟩), Hrv.out, hm]⟩
            go_wp2_with fail
            go_region
            all_goals go_wp2_with fail
            all_goals go_meet
            all_goals
              exact ⟨_, ⟨(x : Int), 1, (it : Int)⟩, (HW.out.setRd it _).drew, (HBW.out.other (p := ⟨N + 2, it, none⟩) (by show Bo ≠ N + 2; have := HBo.out; omega) _).drew, HS.out _ (by omega), rfl⟩
          · have HS : Box ({ st with dead := upd st.dead x true, run := st.run ++ [⟨(x : Int), 4, 0⟩] } = StampM.step skip st ⟨(x : Int), 1, (it : Int)⟩) := ⟨by
              unfold StampM.step
              simp only [Int.toNat_natCast]
              rw [if_neg (by rw [HD.out]; simp), if_neg (by omega), if_neg (by rw [Hwv.out]; omega), if_neg (by rw [Hwv.out, Hrv.out]; omega), if_neg (by omega)]⟩
            have fd := HW.out.b2.frozen x
            have cd := HW.out.b2.tabCell hx
            rw [HD.out] at cd
            have o0' : (W.setCell ⟨N + 1, x, none⟩ (.bool true)).cell? ⟨Bo, 0, none⟩ = some (.int .i64 (x : Int)) := (HBW.out.other (p := ⟨N + 1, x, none⟩) (by show Bo ≠ N + 1; have := HBo.out; omega) _).cell (i := 0) rfl
            have o1' : (W.setCell ⟨N + 1, x, none⟩ (.bool true)).cell? ⟨Bo, 1, none⟩ = some (.int .i64 1) := (HBW.out.other (p := ⟨N + 1, x, none⟩) (by show Bo ≠ N + 1; have := HBo.out; omega) _).cell (i := 1) rfl
            have o2' : (W.setCell ⟨N + 1, x, none⟩ (.bool true)).cell? ⟨Bo, 2, none⟩ = some (.int .i64 (it : Int)) := (HBW.out.other (p := ⟨N + 1, x, none⟩) (by show Bo ≠ N + 1; have := HBo.out; omega) _).cell (i := 2) rfl
            have g0 := HBW.out.frozen 0
            have g1 := HBW.out.frozen 1
            have g2 := HBW.out.frozen 2
            have HW1 := HW.out.setDead x
            have HB1 := HBW.out.other (p := ⟨N + 1, x, none⟩) (by show Bo ≠ N + 1; have := HBo.out; omega) (.bool true)
            have hBN : N + 3 < Bo := by have := HBo.out; omega
            have HW2 := box (((HW1.other hBN HvB.out (by simp [Value.ownBlock]) 0 (.int .i64 (x : Int))).other hBN HvB.out (by simp [Value.ownBlock]) 1 (.int .i64 4)).other hBN HvB.out (by simp [Value.ownBlock]) 2 (.int .i64 0))
            have HB2 := box (((HB1.set 0 (.int .i64 (x : Int))).set 1 (.int .i64 4)).set 2 (.int .i64 0))
            clear HW1 HB1 hBN
            go_wp2_with fail
            go_meet
            exact ⟨_, ⟨(x : Int), 4, 0⟩, HW2.out, HB2.out, HS.out, rfl⟩
        · by_cases hr1 : rv ≤ (x : Int) + 1
          · by_cases hw1 : wv ≤ (x : Int) + 1
            · have HS : Box ({ { st with wr := upd st.wr it ((x : Int) + 1) } with run := st.run ++ [⟨(x : Int), 2, (it : Int)⟩] } = StampM.step skip st ⟨(x : Int), 2, (it : Int)⟩) := ⟨by
                unfold StampM.step
                simp only [Int.toNat_natCast]
                rw [if_neg (by rw [HD.out]; simp), if_neg (by omega), if_neg (by omega), if_pos (by rw [Hwv.out, Hrv.out]; exact ⟨by simp, hr1, hw1⟩)]⟩
              have HB2 := box (HBW.out.other (p := ⟨N + 3, it, none⟩) (by show Bo ≠ N + 3; have := HBo.out; omega) (.int .i64 ((x : Int) + 1)))
              go_wp2_with fail
              go_meet
              exact ⟨_, ⟨(x : Int), 2, (it : Int)⟩, HW.out.setWr it ((x : Int) + 1), HB2.out, HS.out, rfl⟩
            · cases skip with
              | true =>
                have HS : Box (st = StampM.step true st ⟨(x : Int), 2, (it : Int)⟩) := ⟨by
                  unfold StampM.step
                  simp only [Int.toNat_natCast]
                  rw [if_neg (by rw [HD.out]; simp), if_neg (by omega), if_neg (by omega), if_neg (by rw [Hwv.out, Hrv.out]; omega), if_pos (by rw [Hrv.out]; exact ⟨by simp, hr1, by simp⟩)]⟩
                go_wp2_with fail
                go_roundw
                case rel => exact Hnext.out _ _ _ HS.out HW.out
                case measure => simp [intOf]; omega
              | false =>
                have HS : Box ({ st with dead := upd st.dead x true, run := st.run ++ [⟨(x : Int), 4, 0⟩] } = StampM.step false st ⟨(x : Int), 2, (it : Int)⟩) := ⟨by
                  unfold StampM.step
                  simp only [Int.toNat_natCast]
                  rw [if_neg (by rw [HD.out]; simp), if_neg (by omega), if_neg (by rw [Hwv.out]; omega), if_neg (by rw [Hwv.out, Hrv.out]; omega), if_neg (by simp)]⟩
                have fd := HW.out.b2.frozen x
                have cd := HW.out.b2.tabCell hx
                rw [HD.out] at cd
                have o0' : (W.setCell ⟨N + 1, x, none⟩ (.bool true)).cell? ⟨Bo, 0, none⟩ = some (.int .i64 (x : Int)) := (HBW.out.other (p := ⟨N + 1, x, none⟩) (by show Bo ≠ N + 1; have := HBo.out; omega) _).cell (i := 0) rfl
                have o1' : (W.setCell ⟨N + 1, x, none⟩ (.bool true)).cell? ⟨Bo, 1, none⟩ = some (.int .i64 2) := (HBW.out.other (p := ⟨N + 1, x, none⟩) (by show Bo ≠ N + 1; have := HBo.out; omega) _).cell (i := 1) rfl
                have o2' : (W.setCell ⟨N + 1, x, none⟩ (.bool true)).cell? ⟨Bo, 2, none⟩ = some (.int .i64 (it : Int)) := (HBW.out.other (p := ⟨N + 1, x, none⟩) (by show Bo ≠ N + 1; have := HBo.out; omega) _).cell (i := 2) rfl
                have g0 := HBW.out.frozen 0
                have g1 := HBW.out.frozen 1
                have g2 := HBW.out.frozen 2
                have HW1 := HW.out.setDead x
                have HB1 := HBW.out.other (p := ⟨N + 1, x, none⟩) (by show Bo ≠ N + 1; have := HBo.out; omega) (.bool true)
                have hBN : N + 3 < Bo := by have := HBo.out; omega
                have HW2 := box (((HW1.other hBN HvB.out (by simp [Value.ownBlock]) 0 (.int .i64 (x : Int))).other hBN HvB.out (by simp [Value.ownBlock]) 1 (.int .i64 4)).other hBN HvB.out (by simp [Value.ownBlock]) 2 (.int .i64 0))
                have HB2 := box (((HB1.set 0 (.int .i64 (x : Int))).set 1 (.int .i64 4)).set 2 (.int .i64 0))
                clear HW1 HB1 hBN
                go_wp2_with fail
                go_meet
                exact ⟨_, ⟨(x : Int), 4, 0⟩, HW2.out, HB2.out, HS.out, rfl⟩
          · have HS : Box ({ st with dead := upd st.dead x true, run := st.run ++ [⟨(x : Int), 4, 0⟩] } = StampM.step skip st ⟨(x : Int), 2, (it : Int)⟩) := ⟨by
              unfold StampM.step
              simp only [Int.toNat_natCast]
              rw [if_neg (by rw [HD.out]; simp), if_neg (by omega), if_neg (by rw [Hwv.out]; omega), if_neg (by rw [Hwv.out, Hrv.out]; omega), if_neg (by rw [Hrv.out]; omega)]⟩
            have fd := HW.out.b2.frozen x
            have cd := HW.out.b2.tabCell hx
            rw [HD.out] at cd
            have o0' : (W.setCell ⟨N + 1, x, none⟩ (.bool true)).cell? ⟨Bo, 0, none⟩ = some (.int .i64 (x : Int)) := (HBW.out.other (p := ⟨N + 1, x, none⟩) (by show Bo ≠ N + 1; have := HBo.out; omega) _).cell (i := 0) rfl
            have o1' : (W.setCell ⟨N + 1, x, none⟩ (.bool true)).cell? ⟨Bo, 1, none⟩ = some (.int .i64 2) := (HBW.out.other (p := ⟨N + 1, x, none⟩) (by show Bo ≠ N + 1; have := HBo.out; omega) _).cell (i := 1) rfl
            have o2' : (W.setCell ⟨N + 1, x, none⟩ (.bool true)).cell? ⟨Bo, 2, none⟩ = some (.int .i64 (it : Int)) := (HBW.out.other (p := ⟨N + 1, x, none⟩) (by show Bo ≠ N + 1; have := HBo.out; omega) _).cell (i := 2) rfl
            have g0 := HBW.out.frozen 0
            have g1 := HBW.out.frozen 1
            have g2 := HBW.out.frozen 2
            have HW1 := HW.out.setDead x
            have HB1 := HBW.out.other (p := ⟨N + 1, x, none⟩) (by show Bo ≠ N + 1; have := HBo.out; omega) (.bool true)
            have hBN : N + 3 < Bo := by have := HBo.out; omega
            have HW2 := box (((HW1.other hBN HvB.out (by simp [Value.ownBlock]) 0 (.int .i64 (x : Int))).other hBN HvB.out (by simp [Value.ownBlock]) 1 (.int .i64 4)).other hBN HvB.out (by simp [Value.ownBlock]) 2 (.int .i64 0))
            have HB2 := box (((HB1.set 0 (.int .i64 (x : Int))).set 1 (.int .i64 4)).set 2 (.int .i64 0))
            clear HW1 HB1 hBN
            go_wp2_with fail
            go_meet
            exact ⟨_, ⟨(x : Int), 4, 0⟩, HW2.out, HB2.out, HS.out, rfl⟩
        · have HS : Box ({ st with run := st.run ++ [⟨(x : Int), kind, (it : Int)⟩] } = StampM.step skip st ⟨(x : Int), kind, (it : Int)⟩) := ⟨by
            unfold StampM.step
            simp only [Int.toNat_natCast]
            rw [if_neg (by rw [HD.out]; simp), if_pos h3]⟩
          go_wp2_with fail
          go_meet
          exact ⟨st, ⟨(x : Int), kind, (it : Int)⟩, HW.out, HBW.out, HS.out, rfl⟩
      case rest =>
        obtain ⟨st1, o1, hw, hbw, hst, hrn⟩ := hcut
        have c1 := hw.b1.cell (i := 0) rfl
        have d0 := hbw.cell (i := 0) rfl
        have d1 := hbw.cell (i := 1) rfl
        have d2 := hbw.cell (i := 2) rfl
        have e1 := hw.b1.lt
        have e2 := hbw.lt
        have hown2 := hw.own.alloc (.cells #[.int .i64 o1.tx, .int .i64 o1.kind, .int .i64 o1.item] 25)
        have hl1 : st1.run.length ≤ 200 := by rw [hrn]; have := (RunM.check_ok HC.out).1; omega
        have hbs := hw.below.size
        have HW1 := box hw; have Hst := box hst
        clear hw hbw hst hrn
        obtain ⟨i0, hi0, hz0, hz1, hz2⟩ := info_parts Try.infoOp
        go_wp2_with (at_builtin; go_must (refine wpList_append_own _ rfl _ _ 22 rfl w.heap.size 25 i0 _ 3 24 Try.underlying22 hi0 hz0 hz1 hz2 rfl (by decide) v _ _ rfl hown2 ⟨wc.heap.size, 0, none⟩ 1 1 [.int .i64 o1.tx, .int .i64 o1.kind, .int .i64 o1.item] rfl rfl (cells_new wc [.int .i64 o1.tx, .int .i64 o1.kind, .int .i64 o1.item] _) (by simp [Value.oneCell']) (by unfold maxLen; omega) (by omega) (by rw [World.size_alloc]; omega) ?_))
        intro v' w2 hown3 hgrow hv'
        obtain ⟨g, gcap, hve, hg1, hg2, hg3⟩ := ownsRow_shape hown3 hv'
        rw [hve] at hown3 ⊢
        obtain ⟨hk1, hm⟩ := (HW1.out.alloc _).more hown3 hgrow
        have k1 := hk1.cell (i := 0) rfl
        have k2 := hk1.frozen 0
        have HM := box hm
        clear hown3 hgrow hv' hve hk1 hm hown2 c1 d0 d1 d2
        go_wp2_with fail
        go_roundw
        case rel => exact Hnext.out _ _ _ Hst.out HM.out
        case measure => simp [intOf]; omega
end Go.Proofs.Ytnhhjjhhicmfpaa
