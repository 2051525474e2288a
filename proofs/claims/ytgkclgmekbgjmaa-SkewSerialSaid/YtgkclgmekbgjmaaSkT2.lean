/- skew's take: what it computes. -/
import Derived.Test.YtgkclgmekbgjmaaSkT
import Derived.Deep.RegionHeld3
namespace Go.Proofs.Ytgkclgmekbgjmaa
open Go.RowKit Go.Lib

/-- In the middle of take: the table, the operation, the result's cell, and what is left. -/
structure SkM.TW (w wa : World) (N B : Nat) (st : SkSt) (v : Nat → Value) (o : OpM) (W : World) : Prop where
  sw : SkM.SW w N st v W
  op : Blk W B 53 [.int .i64 o.tx, .int .i64 o.kind, .int .i64 o.item]
  res : Blk W (B + 1) 59 [.bool false, .int .i64 0]
  kept : SkM.Kept N wa W
section
variable {w wa : World} {N B : Nat} {st : SkSt} {v : Nat → Value} {o : OpM} {W : World}
theorem SkM.TW.dN (h : SkM.TW w wa N B st v o W) (n : Nat) : SkM.TW w wa N B st v o (W.drewN n) :=
  ⟨h.sw.after (below_dN (Below.refl _ _) n), h.op.drewN n, h.res.drewN n, h.kept.trans (SkM.Kept.of_below (below_dN (Below.refl _ _) n))⟩
theorem SkM.TW.alloc (h : SkM.TW w wa N B st v o W) (ob : Obj) : SkM.TW w wa N B st v o (W.alloc ob) :=
  ⟨h.sw.alloc ob, h.op.alloc ob, h.res.alloc ob, h.kept.alloc ob⟩
theorem SkM.TW.after {w' : World} (h : SkM.TW w wa N B st v o W) (hb : Below W.heap.size W w') : SkM.TW w wa N B st v o w' :=
  ⟨h.sw.after hb, h.op.after hb, h.res.after hb, h.kept.trans (SkM.Kept.of_below hb)⟩
theorem SkM.TW.by {st' : SkSt} {v' : Nat → Value} {w' : World} (h : SkM.TW w wa N B st v o W) (hs : SkM.SW w N st' v' w') (hk : SkM.Kept N W w') (hB : B ≠ N ∧ B + 1 ≠ N) : SkM.TW w wa N B st' v' o w' :=
  ⟨hs, hk.blk h.op hB.1 (by decide), hk.blk h.res hB.2 (by decide), h.kept.trans hk⟩
theorem SkM.TW.other (h : SkM.TW w wa N B st v o W) {C : Nat} {D : List Value} (hC : Blk W C 59 D) (h1 : B + 1 < C) (h2 : w.heap.size ≤ B) (h3 : wa.heap.size ≤ C) (i : Nat) (u : Value) : SkM.TW w wa N B st v o (W.setCell ⟨C, i, none⟩ u) :=
  ⟨h.sw.other hC (by omega) (by decide) (by decide) _ _, h.op.other (by show B ≠ C; omega) _, h.res.other (by show B + 1 ≠ C; omega) _, h.kept.set (Or.inr h3) _ _⟩
theorem SkM.TW.setN {st' : SkSt} {v' : Nat → Value} (h : SkM.TW w wa N B st v o W) (i : Nat) (u : Value) (hB : B ≠ N ∧ B + 1 ≠ N) (hs : SkM.SW w N st' v' (W.setCell ⟨N, i, none⟩ u)) : SkM.TW w wa N B st' v' o (W.setCell ⟨N, i, none⟩ u) :=
  ⟨hs, h.op.other hB.1 _, h.res.other hB.2 _, h.kept.set (Or.inl rfl) _ _⟩
end
def SkM.cl (st : SkSt) (o : OpM) : Bool := SkM.clash (SkM.begin st o.tx.toNat) o.tx.toNat

set_option maxRecDepth 20000 in
set_option maxHeartbeats 16000000 in
theorem skTake_any {w wa : World} {N : Nat} {st : SkSt} {v : Nat → Value} (h : SkM.SW w N st v wa) (o : OpM) (ho : RunM.bad o = 0) {m : Nat} (hb : SkM.Bnd st m) (hm : m ≤ 199) :
    Calls Try.prog 62 #[.pointer (some ⟨N, 0, none⟩), .agg #[.int .i64 o.tx, .int .i64 o.kind, .int .i64 o.item]] wa fun e w' =>
      ∃ v', e = .returned (.agg #[.bool (SkM.did (SkM.cl st o) st o).ok, .int .i64 (SkM.did (SkM.cl st o) st o).from_]) ∧ SkM.SW w N (SkM.step (SkM.cl st o) st o) v' w' ∧ SkM.Kept N wa w' := by
  have H := box h; have Hbn := box hb
  obtain ⟨b1, b2, b3, b4, b5, b6, b7⟩ := RunM.bad_zero ho
  clear b7
  obtain ⟨tx, kind, item⟩ := o
  simp only at b1 b2 b3 b4 b5 b6
  obtain ⟨x, rfl⟩ := Int.eq_ofNat_of_zero_le b1
  obtain ⟨it, rfl⟩ := Int.eq_ofNat_of_zero_le b3
  have hx : x < 12 := by omega
  have hit : it < 20 := by omega
  have hlN := h.b0.lt
  have Hkind := box (show kind = 1 ∨ kind = 2 ∨ kind = 3 ∨ kind = 4 by omega)
  clear h hb ho b3 b4 b5 b6
  go_enter Try.func62, Try.ntmps62
  go_upto_region 1 with (fail)
  have hT0 : SkM.TW w wa N wa.heap.size st v ⟨(x : Int), kind, (it : Int)⟩ ((wa.alloc (.cells [Value.int .i64 (x : Int), .int .i64 kind, .int .i64 (it : Int)].toArray 53)).alloc (.cells [Value.bool false, .int .i64 0].toArray 59)) :=
    ⟨(H.out.alloc _).alloc _, (Blk.new _ _ _).alloc _, Blk.new' (by simp) _ _, ((SkM.Kept.refl N wa).alloc _).alloc _⟩
  have HT0 := box hT0
  refine name_world (fun W => SkM.TW w wa N wa.heap.size st v ⟨(x : Int), kind, (it : Int)⟩ W) HT0.out ?_
  clear hT0 HT0
  rintro W hW
  have HW := box hW
  have o0 := hW.op.cell (i := 0) rfl
  have o1 := hW.op.cell (i := 1) rfl
  have o2 := hW.op.cell (i := 2) rfl
  have cb := hW.sw.cell (i := x * 6) (by omega)
  rw [SkM.cell_began x hx] at cb
  have hBe : N < wa.heap.size := by omega
  have hlB : w.heap.size ≤ wa.heap.size := H.out.below.size
  obtain ⟨B, HB⟩ : ∃ B, Box (wa.heap.size = B) := ⟨_, ⟨rfl⟩⟩
  rw [HB.out] at HW o0 o1 o2 hBe hlB ⊢
  simp only at o0 o1 o2
  clear hW
  go_quiet (fail)
  go_upto_if 19 with (fail)
  go_cut [] (fun wx => ∃ v2, SkM.TW w wa N B (SkM.begin st x) v2 ⟨(x : Int), kind, (it : Int)⟩ wx)
  case first =>
    have HW2 := box (HW.out.dN nq)
    clear o0 o1 o2 cb
    generalize W.drewN nq = W2 at *
    obtain ⟨bg, HBG⟩ : ∃ bg, Box (st.began x = bg) := ⟨_, ⟨rfl⟩⟩
    rw [HBG.out]
    cases bg with
    | true =>
      go_wp2_with fail
      go_meet
      refine ⟨v, ?_⟩
      rw [SkM.begin, if_pos HBG.out]
      exact HW2.out
    | false =>
      have cd := HW2.out.sw.cell (i := 72) (by omega)
      rw [SkM.cell_done] at cd
      have f0 := HW2.out.sw.b0.frozen (x * 6)
      have f1 := HW2.out.sw.b0.frozen (x * 6 + 1)
      have f2 := HW2.out.sw.b0.frozen (x * 6 + 2)
      have f3 := HW2.out.sw.b0.frozen (x * 6 + 3)
      have f4 := HW2.out.sw.b0.frozen (x * 6 + 4)
      have f5 := HW2.out.sw.b0.frozen (x * 6 + 5)
      have t0 := HW2.out.sw.cell (i := x * 6) (by omega)
      have t1 := HW2.out.sw.cell (i := x * 6 + 1) (by omega)
      have t2 := HW2.out.sw.cell (i := x * 6 + 2) (by omega)
      have t3 := HW2.out.sw.cell (i := x * 6 + 3) (by omega)
      have t4 := HW2.out.sw.cell (i := x * 6 + 4) (by omega)
      have t5 := HW2.out.sw.cell (i := x * 6 + 5) (by omega)
      rw [SkM.cell_began x hx] at t0
      rw [SkM.cell_dn x hx] at t1
      rw [SkM.cell_fr x hx] at t2
      rw [SkM.cell_at x hx] at t3
      rw [SkM.cell_rd x hx] at t4
      rw [SkM.cell_wr x hx] at t5
      go_wp2_with fail
      go_meet
      refine ⟨upd (upd v x (.slice none 0 0)) (12 + x) (.slice none 0 0), ?_⟩
      rw [SkM.begin, if_neg (by rw [HBG.out]; simp)]
      have hBN : B ≠ N ∧ B + 1 ≠ N := by omega
      have z1 := HW2.out.setN (x * 6) (.bool true) hBN (HW2.out.sw.setBegan hx true)
      have z2 := z1.setN (x * 6 + 1) (.bool false) hBN (z1.sw.setDn hx false)
      have z3 := z2.setN (x * 6 + 2) (.int .i64 st.done) hBN (z2.sw.setFr hx st.done)
      have z4 := z3.setN (x * 6 + 3) (.int .i64 0) hBN (z3.sw.setAt hx 0)
      have z5 := z4.setN (SkM.place x) (.slice none 0 0) hBN (z4.sw.setNone (r := x) (by omega))
      have z6 := z5.setN (SkM.place (12 + x)) (.slice none 0 0) hBN (z5.sw.setNone (r := 12 + x) (by omega))
      rw [SkM.place_rd hx, SkM.place_wr hx] at z6
      exact z6
  case rest =>
  obtain ⟨v2, hcut⟩ := hcut
  clear o0 o1 o2 cb HW H
  have HW := box hcut
  have hB2 := Hbn.out.begin hx
  have HB2 := box hB2
  have HD0 : Box (SkM.did (SkM.cl st ⟨(x : Int), kind, (it : Int)⟩) st ⟨(x : Int), kind, (it : Int)⟩ = (if kind = 1 then ⟨true, SkM.readV (SkM.begin st x) x (x : Int) (it : Int)⟩ else if kind = 3 then ⟨!SkM.clash (SkM.begin st x) x, -1⟩ else ⟨true, -1⟩ : DidM)) := ⟨rfl⟩
  have HS0 : Box (SkM.step (SkM.cl st ⟨(x : Int), kind, (it : Int)⟩) st ⟨(x : Int), kind, (it : Int)⟩ = if kind = 1 then SkM.readS (SkM.begin st x) x (it : Int) else if kind = 2 then SkM.writeS (SkM.begin st x) x (it : Int) else if kind = 3 then (if SkM.clash (SkM.begin st x) x = true then SkM.begin st x else SkM.commit (SkM.begin st x) x (x : Int)) else SkM.begin st x) := ⟨rfl⟩
  have o1 := hcut.op.cell (i := 1) rfl
  have hlCN := hcut.sw.b0.lt
  have hlC := hcut.res.lt
  simp only at o1
  clear hcut hB2
  generalize SkM.begin st x = s at *
  have hCa : wa.heap.size ≤ wc.heap.size := by have := HB.out; omega
  have hBN : B ≠ N ∧ B + 1 ≠ N := by omega
  go_upto_region 5 with (fail)
  refine name_world (fun W => SkM.TW w wa N B s v2 ⟨(x : Int), kind, (it : Int)⟩ W ∧ Blk W wc.heap.size 59 [.bool true, .int .i64 (-1)]) ⟨HW.out.alloc _, Blk.new _ _ _⟩ ?_
  rintro W ⟨hw, hC⟩
  have HW := box hw; have HC := box hC
  clear o1
  generalize wc.heap.size = C at *
  have o0 := hw.op.cell (i := 0) rfl
  have o1 := hw.op.cell (i := 1) rfl
  have o2 := hw.op.cell (i := 2) rfl
  simp only at o0 o1 o2
  have c1 := hC.cell (i := 1) rfl
  have f1 := hC.frozen 1
  have hl1 := hC.lt
  clear hw hC
  rcases Hkind.out with rfl | rfl | rfl | rfl
  · have HD : Box (SkM.did (SkM.cl st ⟨(x : Int), 1, (it : Int)⟩) st ⟨(x : Int), 1, (it : Int)⟩ = ⟨true, SkM.readV s x (x : Int) (it : Int)⟩) := ⟨by rw [HD0.out]; simp⟩
    have HS : Box (SkM.step (SkM.cl st ⟨(x : Int), 1, (it : Int)⟩) st ⟨(x : Int), 1, (it : Int)⟩ = SkM.readS s x (it : Int)) := ⟨by rw [HS0.out]; simp⟩
    clear HD0 HS0
    go_wp2_with fail
    refine (skRead_any HW.out.sw hx hit (x : Int) HB2.out (by omega)).mono ?_
    rintro e w5 ⟨v5, rfl, hsw5, hk5⟩
    have HW5 := box (HW.out.by hsw5 hk5 hBN)
    have HC5 := box (hk5.blk HC.out (by omega) (by decide))
    clear hsw5 hk5 o0 o1 o2 c1 f1 hl1 HW HC
    have c1 := HC5.out.cell (i := 1) rfl
    have f1 := HC5.out.frozen 1
    obtain ⟨rv, HRV⟩ : ∃ rv, Box (SkM.readV s x (x : Int) (it : Int) = rv) := ⟨_, ⟨rfl⟩⟩
    rw [HRV.out] at HD ⊢
    go_upto_region 21 with (fail)
    refine name_world (fun W => SkM.TW w wa N B (SkM.readS s x (it : Int)) v5 ⟨(x : Int), 1, (it : Int)⟩ W ∧ Blk W C 59 [.bool true, .int .i64 rv]) ⟨HW5.out.other HC5.out (by omega) hlB (by omega) _ _, HC5.out.set 1 _⟩ ?_
    rintro W8 ⟨hw8, hC8⟩
    have HW8 := box hw8; have HC8 := box hC8
    clear hw8 hC8 c1 f1 HW5 HC5
    have e0 := HC8.out.cell (i := 0) rfl
    have e1 := HC8.out.cell (i := 1) rfl
    have hr0 := HW8.out.res.cell (i := 0) rfl
    have hr1 := HW8.out.res.cell (i := 1) rfl
    have hf0 := HW8.out.res.frozen 0
    have hf1 := HW8.out.res.frozen 1
    have hlC := HW8.out.res.lt
    have HEnd := box ((HW8.out.sw.other HW8.out.res (by omega) (by decide) (by decide) 0 (.bool true)).other (HW8.out.res.set 0 _) (by omega) (by decide) (by decide) 1 (.int .i64 rv))
    have HKEnd := box ((HW8.out.kept.set (b := B + 1) (Or.inr (by have := HB.out; omega)) 0 (.bool true)).set (b := B + 1) (Or.inr (by have := HB.out; omega)) 1 (.int .i64 rv))
    go_wp2_with fail
    refine bodyPost_ret (v := .agg #[.bool true, .int .i64 rv]) (by simp [results, Try.results62, go_sem, hr0, hr1]) rfl ⟨v5, by rw [HD.out], ?_, HKEnd.out⟩
    rw [HS.out]
    exact HEnd.out
  · have HD : Box (SkM.did (SkM.cl st ⟨(x : Int), 2, (it : Int)⟩) st ⟨(x : Int), 2, (it : Int)⟩ = ⟨true, -1⟩) := ⟨by rw [HD0.out]; simp⟩
    have HS : Box (SkM.step (SkM.cl st ⟨(x : Int), 2, (it : Int)⟩) st ⟨(x : Int), 2, (it : Int)⟩ = SkM.writeS s x (it : Int)) := ⟨by rw [HS0.out]; simp⟩
    clear HD0 HS0
    have HWS : Box (SkM.writeS s x (it : Int) = if (it : Int) ∈ s.rows (12 + x) then s else { s with rows := upd s.rows (12 + x) (s.rows (12 + x) ++ [(it : Int)]) }) := ⟨rfl⟩
    rw [HWS.out] at HS
    obtain ⟨ao, cap, hvx, hat, hcell, _⟩ := HW.out.sw.row (r := 12 + x) (by omega)
    rw [SkM.place_wr hx] at hcell
    have HAT := box hat; have HVX := box hvx
    have hlw : (s.rows (12 + x)).length ≤ 200 := Nat.le_trans (HB2.out.rw_ (12 + x) (by omega)) (by omega)
    clear hat hvx o0 c1 f1
    go_upto_region 9 with (fail)
    go_region_held3 (fun w' => w'.cell? ⟨B, 2, none⟩ = some (.int .i64 (it : Int)) ∧ w'.cell? ⟨N, x * 6 + 5, none⟩ = some (.slice ao (s.rows (12 + x)).length cap)) (first | exact ⟨o2, hcell⟩ | assumption) (first | (go_at_call 19; refine (contains_ints (s.rows (12 + x)) (it : Int) ao cap W.drew HAT.out (by omega)).mono ?_; rintro e w6 ⟨rfl, rfl⟩))
    have HW7 := box (HW.out.dN 1)
    have HC7 : Box (Blk W.drew C 59 [.bool true, .int .i64 (-1)]) := ⟨HC.out.drew⟩
    change Box (SkM.TW w wa N B s v2 ⟨(x : Int), 2, (it : Int)⟩ W.drew) at HW7
    clear o1 o2 hcell HW HC HAT
    generalize W.drew = W7 at *
    by_cases hmem : (it : Int) ∈ s.rows (12 + x)
    · have hm := box hmem
      rw [decide_eq_true hmem]
      clear hmem
      go_upto_region 21 with (fail)
      have e0 := HC7.out.cell (i := 0) rfl
      have e1 := HC7.out.cell (i := 1) rfl
      have hr0 := HW7.out.res.cell (i := 0) rfl
      have hr1 := HW7.out.res.cell (i := 1) rfl
      have hf0 := HW7.out.res.frozen 0
      have hf1 := HW7.out.res.frozen 1
      have hlC := HW7.out.res.lt
      have HEnd := box ((HW7.out.sw.other HW7.out.res (by omega) (by decide) (by decide) 0 (.bool true)).other (HW7.out.res.set 0 _) (by omega) (by decide) (by decide) 1 (.int .i64 (-1)))
      have HKEnd := box ((HW7.out.kept.set (b := B + 1) (Or.inr (by have := HB.out; omega)) 0 (.bool true)).set (b := B + 1) (Or.inr (by have := HB.out; omega)) 1 (.int .i64 (-1)))
      go_wp2_with fail
      refine bodyPost_ret (v := .agg #[.bool true, .int .i64 (-1)]) (by simp [results, Try.results62, go_sem, hr0, hr1]) rfl ⟨v2, by rw [HD.out], ?_, HKEnd.out⟩
      rw [HS.out]; rw [if_pos hm.out]
      exact HEnd.out
    · have hm := box hmem
      rw [decide_eq_false hmem]
      clear hmem
      go_upto_region 10 with (fail)
      obtain ⟨i0, hi0, hz0, hz1, hz2⟩ := info_parts SkM.infoI
      have d2 := HW7.out.op.cell (i := 2) rfl
      simp only at d2
      have dw := HW7.out.sw.cell (i := x * 6 + 5) (by omega)
      rw [SkM.cell_wr x hx] at dw
      have fw := HW7.out.sw.b0.frozen (x * 6 + 5)
      have ownr : W7.ownsRow w.heap.size 3 1 (v2 (12 + x)) (s.rows (12 + x)).length (intVals (s.rows (12 + x))) := HW7.out.sw.fam.own (12 + x) (by omega)
      have e3 := HW7.out.sw.b0.lt
      have e5 := HW7.out.op.lt
      have eb := HW7.out.sw.below.size
      rw [HVX.out] at dw ownr
      have a2 : (Value.slice ao (s.rows (12 + x)).length cap).ownBlock ≠ some N := HW7.out.sw.b0.ne_own ownr (by decide)
      have e3' : N < W7.drew.heap.size := e3
      have e5' : B < W7.drew.heap.size := e5
      refine wp_meetF (fun wx => ∃ v', SkM.TW w wa N B { s with rows := upd s.rows (12 + x) (s.rows (12 + x) ++ [(it : Int)]) } (upd v2 (12 + x) v') ⟨(x : Int), 2, (it : Int)⟩ wx ∧ Blk wx C 59 [.bool true, .int .i64 (-1)]) ?_
      apply Exists.intro
      constructor
      · go_region_law ((refine step_append_lies _ (by rfl) _ _ _ (by rfl) w.heap.size 3 i0 _ 1 8 Try.underlying31 hi0 hz0 hz1 hz2 rfl (by omega) (.slice ao (s.rows (12 + x)).length cap) _ _ (by rfl) ((ownr.alloc _).drew) ⟨W7.heap.size, 0, none⟩ 1 1 [.int .i64 (it : Int)] (by rfl) (by rfl) (World.news_of_block (cs := #[.int .i64 (it : Int)]) (t := 3) (fr := (0, 0)) (heap_alloc_new W7 _)) (by simp [Value.oneCell']) (by omega) (by unfold maxLen; omega) (by omega) (by simp; omega) (W7.heap.size + 1) (by simp) ?_; intro gg gcap w2 hown2 hgrow hat hlt2; have g1' := ((HW7.out.sw.b0.alloc _).drew.grown hgrow a2); have g1 := g1'.tabCell (i := x * 6 + 5) (by omega); have g2 := g1'.frozen (x * 6 + 5); rw [SkM.cell_wr x hx, HVX.out] at g1))
        all_goals
          have hrow := ((HW7.out.sw.alloc (.cells #[.int .i64 (it : Int)] 3)).drew).putR (r := 12 + x) (k := (it : Int)) (by omega) hown2 (by rw [HVX.out]; exact hgrow) (by rw [HVX.out]; exact hat.imp id (fun h => by rw [h]; exact (World.size_alloc _ _).symm))
          rw [SkM.place_wr hx] at hrow
          have hkk := (SkM.Kept.refl N W7).alloc (.cells #[.int .i64 (it : Int)] 3) |>.drew |>.grown ((ownr.alloc _).drew) hgrow |>.set (Or.inl rfl) (x * 6 + 5) (.slice (some ⟨gg, 0, none⟩) ((s.rows (12 + x)).length + 1) gcap)
          exact ⟨gg, gcap, rfl, _, HW7.out.by hrow hkk hBN, hkk.blk HC7.out (by omega) (by decide)⟩
      intro gg gcap wx hcut
      obtain ⟨v', hw8, hC8⟩ := hcut
      have HW8 := box hw8; have HC8 := box hC8
      clear hw8 hC8 d2 dw fw ownr HW7 HC7
      have e0 := HC8.out.cell (i := 0) rfl
      have e1 := HC8.out.cell (i := 1) rfl
      have hr0 := HW8.out.res.cell (i := 0) rfl
      have hr1 := HW8.out.res.cell (i := 1) rfl
      have hf0 := HW8.out.res.frozen 0
      have hf1 := HW8.out.res.frozen 1
      have hlC := HW8.out.res.lt
      have HEnd := box ((HW8.out.sw.other HW8.out.res (by omega) (by decide) (by decide) 0 (.bool true)).other (HW8.out.res.set 0 _) (by omega) (by decide) (by decide) 1 (.int .i64 (-1)))
      have HKEnd := box ((HW8.out.kept.set (b := B + 1) (Or.inr (by have := HB.out; omega)) 0 (.bool true)).set (b := B + 1) (Or.inr (by have := HB.out; omega)) 1 (.int .i64 (-1)))
      go_wp2_with fail
      refine bodyPost_ret (v := .agg #[.bool true, .int .i64 (-1)]) (by simp [results, Try.results62, go_sem, hr0, hr1]) rfl ⟨(upd v2 (12 + x) v'), by rw [HD.out], ?_, HKEnd.out⟩
      rw [HS.out]; rw [if_neg hm.out]
      exact HEnd.out
  · have HD : Box (SkM.did (SkM.cl st ⟨(x : Int), 3, (it : Int)⟩) st ⟨(x : Int), 3, (it : Int)⟩ = ⟨!SkM.clash s x, -1⟩) := ⟨by rw [HD0.out]; simp⟩
    have HS : Box (SkM.step (SkM.cl st ⟨(x : Int), 3, (it : Int)⟩) st ⟨(x : Int), 3, (it : Int)⟩ = (if SkM.clash s x = true then s else SkM.commit s x (x : Int))) := ⟨by rw [HS0.out]; simp⟩
    clear HD0 HS0
    go_wp2_with fail
    refine (clash_any HW.out.sw hx (fun r hr => Nat.le_trans (HB2.out.rw_ r hr) (by omega))).mono ?_
    rintro e w5 ⟨rfl, hb5⟩
    have HW5 := box (HW.out.after hb5)
    have HC5 := box (HC.out.after hb5)
    obtain ⟨c, HCc⟩ : ∃ c, Box (SkM.clash s x = c) := ⟨_, ⟨rfl⟩⟩
    rw [HCc.out] at HD HS ⊢
    clear hb5 o0 o1 o2 c1 f1 hl1 HW HC
    cases c with
    | true =>
      have hr0 := HW5.out.res.cell (i := 0) rfl
      have hr1 := HW5.out.res.cell (i := 1) rfl
      have hf0 := HW5.out.res.frozen 0
      have hf1 := HW5.out.res.frozen 1
      have hlC := HW5.out.res.lt
      have HEnd := box ((HW5.out.sw.other HW5.out.res (by omega) (by decide) (by decide) 0 (.bool false)).other (HW5.out.res.set 0 _) (by omega) (by decide) (by decide) 1 (.int .i64 (-1)))
      have HKEnd := box ((HW5.out.kept.set (b := B + 1) (Or.inr (by have := HB.out; omega)) 0 (.bool false)).set (b := B + 1) (Or.inr (by have := HB.out; omega)) 1 (.int .i64 (-1)))
      go_wp2_with fail
      refine bodyPost_ret (v := .agg #[.bool false, .int .i64 (-1)]) (by simp [results, Try.results62, go_sem, hr0, hr1]) rfl ⟨v2, by rw [HD.out]; rfl, ?_, HKEnd.out⟩
      rw [HS.out, if_pos trivial]
      exact HEnd.out
    | false =>
    have HD1 : Box (SkM.did (SkM.cl st ⟨(x : Int), 3, (it : Int)⟩) st ⟨(x : Int), 3, (it : Int)⟩ = ⟨true, -1⟩) := ⟨by rw [HD.out]; rfl⟩
    have HS1 : Box (SkM.step (SkM.cl st ⟨(x : Int), 3, (it : Int)⟩) st ⟨(x : Int), 3, (it : Int)⟩ = SkM.commit s x (x : Int)) := ⟨by rw [HS.out]; simp⟩
    clear HD HS
    obtain ⟨i0, hi0, hz0, hz1, hz2⟩ := info_parts SkM.infoI
    have hd0 := HB2.out.d.1
    have hd1 := HB2.out.d.2
    have c72 := HW5.out.sw.cell (i := 72) (by omega)
    rw [SkM.cell_done] at c72
    have f72 := HW5.out.sw.b0.frozen 72
    generalize hdn : s.done = dn at *
    have Hdn := box hdn
    clear hdn
    go_upto_region 15 with (fail)
    refine name_world (fun W => SkM.TW w wa N B { s with done := dn + 1 } v2 ⟨(x : Int), 3, (it : Int)⟩ W ∧ Blk W C 59 [.bool true, .int .i64 (-1)]) ⟨HW5.out.setN 72 _ hBN (HW5.out.sw.setDone _), HC5.out.other (by show C ≠ N; omega) _⟩ ?_
    rintro W6 ⟨hw6, hc6⟩
    have HW6 := box hw6; have HC6 := box hc6
    have e72 := hw6.sw.cell (i := 72) (by omega)
    rw [SkM.cell_done] at e72
    simp only at e72
    have g1 := hw6.sw.cell (i := x * 6 + 1) (by omega)
    have g3 := hw6.sw.cell (i := x * 6 + 3) (by omega)
    rw [SkM.cell_dn x hx] at g1
    rw [SkM.cell_at x hx] at g3
    have k1 := hw6.sw.b0.frozen (x * 6 + 1)
    have k3 := hw6.sw.b0.frozen (x * 6 + 3)
    clear hw6 hc6 c72 f72 HW5 HC5
    go_upto_region 16 with (fail)
    refine name_world (fun W => SkM.TW w wa N B { s with done := dn + 1, dn := upd s.dn x true, at_ := upd s.at_ x (dn + 1) } v2 ⟨(x : Int), 3, (it : Int)⟩ W ∧ Blk W C 59 [.bool true, .int .i64 (-1)]) (by
      have z1 := HW6.out.setN (x * 6 + 1) (.bool true) hBN (HW6.out.sw.setDn hx true)
      have z2 := z1.setN (x * 6 + 3) (.int .i64 (dn + 1)) hBN (z1.sw.setAt hx (dn + 1))
      exact ⟨z2, (HC6.out.other (by show C ≠ N; omega) _).other (by show C ≠ N; omega) _⟩) ?_
    rintro W7 ⟨hw7, hc7⟩
    have HW7 := box hw7; have HC7 := box hc7
    clear hw7 hc7 e72 g1 g3 k1 k3 HW6 HC6
    obtain ⟨ws, HWs⟩ : ∃ ws, Box (s.rows (12 + x) = ws) := ⟨_, ⟨rfl⟩⟩
    have hlw : ws.length ≤ 200 := by rw [← HWs.out]; exact Nat.le_trans (HB2.out.rw_ (12 + x) (by omega)) (by omega)
    have HIt : Box (∀ i ∈ ws, 0 ≤ i ∧ i < 20) := ⟨by rw [← HWs.out]; exact HB2.out.it (12 + x) (by omega)⟩
    have HLow : Box (∀ l r, r < 24 → SkM.put (x : Int) s.rows l r = s.rows r) := ⟨fun l r hr => SkM.put_low _ l _ r hr⟩
    obtain ⟨ao, cap, hvx, hat, hcell, _⟩ := HW7.out.sw.row (r := 12 + x) (by omega)
    rw [SkM.place_wr hx] at hcell
    simp only [HWs.out] at hvx hcell
    have HVX := box hvx
    clear hvx hat
    go_wp2_with fail
    go_loopw [90] (fun t90 wr => ∃ (j : Nat) (vL : Nat → Value), j ≤ ws.length ∧ t90 = .int .i64 (j : Int) ∧ Box (SkM.TW w wa N B { s with done := dn + 1, dn := upd s.dn x true, at_ := upd s.at_ x (dn + 1), rows := SkM.put (x : Int) s.rows (ws.take j) } vL ⟨(x : Int), 3, (it : Int)⟩ wr) ∧ Box (vL (12 + x) = v2 (12 + x)) ∧ Box (Blk wr C 59 [.bool true, .int .i64 (-1)])) (fun t90 _ => ws.length - (intOf t90).toNat)
    case atStart => exact ⟨0, v2, Nat.zero_le _, rfl, HW7, ⟨rfl⟩, HC7⟩
    case round =>
      obtain ⟨j, vL, hj, rfl, HT, HVL, HCr⟩ := hrel
      by_cases hlt : j < ws.length
      case neg =>
        have HE : Box (ws.take j = ws) := ⟨List.take_of_length_le (by omega)⟩
        have HWf : Box (SkM.TW w wa N B (SkM.commit s x (x : Int)) vL ⟨(x : Int), 3, (it : Int)⟩ wr) := ⟨by
          have := HT.out
          rw [HE.out] at this
          unfold SkM.commit
          rw [HWs.out, Hdn.out]
          exact this⟩
        clear hcell
        go_upto_region 21 with (fail)
        have e0 := HCr.out.cell (i := 0) rfl
        have e1 := HCr.out.cell (i := 1) rfl
        have hr0 := HWf.out.res.cell (i := 0) rfl
        have hr1 := HWf.out.res.cell (i := 1) rfl
        have hf0 := HWf.out.res.frozen 0
        have hf1 := HWf.out.res.frozen 1
        have hlC := HWf.out.res.lt
        have HEnd := box ((HWf.out.sw.other HWf.out.res (by omega) (by decide) (by decide) 0 (.bool true)).other (HWf.out.res.set 0 _) (by omega) (by decide) (by decide) 1 (.int .i64 (-1)))
        have HKEnd := box ((HWf.out.kept.set (b := B + 1) (Or.inr (by have := HB.out; omega)) 0 (.bool true)).set (b := B + 1) (Or.inr (by have := HB.out; omega)) 1 (.int .i64 (-1)))
        go_wp2_with fail
        refine bodyPost_ret (v := .agg #[.bool true, .int .i64 (-1)]) (by simp [results, Try.results62, go_sem, hr0, hr1]) rfl ⟨vL, by rw [HD1.out], ?_, HKEnd.out⟩
        rw [HS1.out]
        exact HEnd.out
      have HSn : Box (SkM.put (x : Int) s.rows (ws.take (j + 1)) = upd (SkM.put (x : Int) s.rows (ws.take j)) (24 + ws[j].toNat) (SkM.put (x : Int) s.rows (ws.take j) (24 + ws[j].toNat) ++ [(x : Int)])) := ⟨by
        rw [List.take_succ_eq_append_getElem hlt, SkM.put_snoc]⟩
      obtain ⟨ao', cap', hv', hat', hcl', _⟩ := HT.out.sw.row (r := 12 + x) (by omega)
      rw [HVL.out, HVX.out] at hv'
      simp only [Value.slice.injEq] at hv'
      obtain ⟨rfl, hln, rfl⟩ := hv'
      clear hln
      simp only [HLow.out (ws.take j) (12 + x) (by omega), HWs.out] at hat'
      obtain ⟨b, off, rfl, hbl, hrow⟩ := hat'.resolve_left (by intro h; rw [h] at hlt; simp at hlt)
      have c0 := hrow j hlt
      obtain ⟨hi1, hi2⟩ := HIt.out _ (List.getElem_mem hlt)
      have hlv : ∀ i, 24 ≤ i → (SkM.put (x : Int) s.rows (ws.take j) i).length ≤ 50000 := fun i hi => by
        have h1 := SkM.put_len (x : Int) (ws.take j) s.rows i
        have h2 := List.length_take_le j ws
        have h3 : (s.rows i).length ≤ 40000 := Nat.le_trans (HB2.out.v i hi) (Nat.le_trans (Nat.mul_le_mul hm hm) (by decide))
        omega
      clear hrow hcell hat' hcl'
      generalize ws[j] = it' at *
      obtain ⟨iw, rfl⟩ := Int.eq_ofNat_of_zero_le hi1
      have hiw : iw < 20 := by omega
      rw [show (iw : Int).toNat = iw by omega] at HSn
      have hlr := hlv (24 + iw) (by omega)
      clear hlv
      generalize hput : SkM.put (x : Int) s.rows (ws.take j) = rws at *
      have Hput := box hput
      clear hput
      have dv := HT.out.sw.cell (i := 73 + iw) (by omega)
      rw [SkM.cell_ws] at dv
      have do0 := HT.out.op.cell (i := 0) rfl
      simp only at do0
      have fv := HT.out.sw.b0.frozen (73 + iw)
      have ownr : wr.ownsRow w.heap.size 3 1 (vL (24 + iw)) (rws (24 + iw)).length (intVals (rws (24 + iw))) := HT.out.sw.fam.own (24 + iw) (by omega)
      have e3 := HT.out.sw.b0.lt
      have e4 := HT.out.op.lt
      have eb := HT.out.sw.below.size
      obtain ⟨vx, HVx⟩ : ∃ vx, Box (vL (24 + iw) = vx) := ⟨_, ⟨rfl⟩⟩
      rw [HVx.out] at dv ownr
      have a2 : vx.ownBlock ≠ some N := HT.out.sw.b0.ne_own ownr (by decide)
      have e3' : N < wr.drew.heap.size := e3
      have e4' : B < wr.drew.heap.size := e4
      have hx0 : (0 : Int) ≤ (iw : Int) := by omega
      have hx1 : (iw : Int) < 20 := by omega
      go_upto_region 19 with (fail)
      refine wp_meetF (fun wx => ∃ v', SkM.TW w wa N B { s with done := dn + 1, dn := upd s.dn x true, at_ := upd s.at_ x (dn + 1), rows := upd rws (24 + iw) (rws (24 + iw) ++ [(x : Int)]) } (upd vL (24 + iw) v') ⟨(x : Int), 3, (it : Int)⟩ wx ∧ Blk wx C 59 [.bool true, .int .i64 (-1)]) ?_
      apply Exists.intro
      constructor
      · go_region_law ((refine step_append_lies _ (by rfl) _ _ _ (by rfl) w.heap.size 3 i0 _ 1 8 Try.underlying31 hi0 hz0 hz1 hz2 rfl (by omega) vx _ _ (by rfl) ((ownr.alloc _).drew) ⟨wr.heap.size, 0, none⟩ 1 1 [.int .i64 (x : Int)] (by rfl) (by rfl) (World.news_of_block (cs := #[.int .i64 (x : Int)]) (t := 3) (fr := (0, 0)) (heap_alloc_new wr _)) (by simp [Value.oneCell']) (by omega) (by unfold maxLen; omega) (by omega) (by simp; omega) (wr.heap.size + 1) (by simp) ?_; intro gg gcap w2 hown2 hgrow hat hlt2; have g1' := ((HT.out.sw.b0.alloc _).drew.grown hgrow a2); have g1 := g1'.tabCell (i := 73 + iw) (by omega); have g2 := g1'.frozen (73 + iw); rw [SkM.cell_ws, HVx.out] at g1))
        all_goals
          have hrow := ((HT.out.sw.alloc (.cells #[.int .i64 (x : Int)] 3)).drew).putR (r := 24 + iw) (k := (x : Int)) (by omega) hown2 (by rw [HVx.out]; exact hgrow) (by rw [HVx.out]; exact hat.imp id (fun h => by rw [h]; exact (World.size_alloc _ _).symm))
          rw [SkM.place_ws] at hrow
          have hkk := (SkM.Kept.refl N wr).alloc (.cells #[.int .i64 (x : Int)] 3) |>.drew |>.grown ((ownr.alloc _).drew) hgrow |>.set (Or.inl rfl) (73 + iw) (.slice (some ⟨gg, 0, none⟩) ((rws (24 + iw)).length + 1) gcap)
          exact ⟨gg, gcap, rfl, _, HT.out.by hrow hkk hBN, hkk.blk HCr.out (by omega) (by decide)⟩
      intro gg gcap wx hcut
      obtain ⟨v', hw8, hC8⟩ := hcut
      have HW8 := box hw8; have HC8 := box hC8
      clear hw8 hC8 dv do0 fv ownr c0
      go_wp2_with fail
      go_roundw
      case rel =>
        exact ⟨j + 1, upd vL (24 + iw) v', hlt, by go_num, ⟨by rw [HSn.out]; exact HW8.out⟩, ⟨by rw [upd_other _ _ (by omega)]; exact HVL.out⟩, HC8⟩
      case measure => simp [intOf]; omega
  · have HD : Box (SkM.did (SkM.cl st ⟨(x : Int), 4, (it : Int)⟩) st ⟨(x : Int), 4, (it : Int)⟩ = ⟨true, -1⟩) := ⟨by rw [HD0.out]; simp⟩
    have HS : Box (SkM.step (SkM.cl st ⟨(x : Int), 4, (it : Int)⟩) st ⟨(x : Int), 4, (it : Int)⟩ = s) := ⟨by rw [HS0.out]; simp⟩
    clear HD0 HS0
    go_upto_region 21 with (fail)
    have e0 := HC.out.cell (i := 0) rfl
    have e1 := HC.out.cell (i := 1) rfl
    have hr0 := HW.out.res.cell (i := 0) rfl
    have hr1 := HW.out.res.cell (i := 1) rfl
    have hf0 := HW.out.res.frozen 0
    have hf1 := HW.out.res.frozen 1
    have hlC := HW.out.res.lt
    have HEnd := box ((HW.out.sw.other HW.out.res (by omega) (by decide) (by decide) 0 (.bool true)).other (HW.out.res.set 0 _) (by omega) (by decide) (by decide) 1 (.int .i64 (-1)))
    have HKEnd := box ((HW.out.kept.set (b := B + 1) (Or.inr (by have := HB.out; omega)) 0 (.bool true)).set (b := B + 1) (Or.inr (by have := HB.out; omega)) 1 (.int .i64 (-1)))
    go_wp2_with fail
    refine bodyPost_ret (v := .agg #[.bool true, .int .i64 (-1)]) (by simp [results, Try.results62, go_sem, hr0, hr1]) rfl ⟨by rw [HD.out], ⟨v2, ?_⟩, HKEnd.out⟩
    rw [HS.out]
    exact HEnd.out
end Go.Proofs.Ytgkclgmekbgjmaa
