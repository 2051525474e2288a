/- snap's take: what it computes. -/
import Derived.Test.YtfmgncfikaefhaaSnapC
import Derived.Deep.RegionHeld3
namespace Go.Proofs.Ytfmgncfikaefhaa
open Go.RowKit Go.Lib

theorem Try.infoSnI : (Try.prog.info? 3).map (fun i => (i.zero, i.size, i.bytes)) = some (some (.int .i64 0), 1, 8) := by kernel_rfl
/-- In the middle of take: the table, the operation, the result's cell, and what is left. -/
structure SnapM.TW (w wa : World) (N B : Nat) (st : SnSt) (vw vv : Nat → Value) (o : OpM) (W : World) : Prop where
  sw : SnapM.SW w N st vw vv W
  op : Blk W B 62 [.int .i64 o.tx, .int .i64 o.kind, .int .i64 o.item]
  res : Blk W (B + 1) 65 [.bool false, .int .i64 0]
  kept : SnapM.Kept N wa W
theorem SnapM.TW.dN {w wa : World} {N B : Nat} {st : SnSt} {vw vv : Nat → Value} {o : OpM} {W : World} (h : SnapM.TW w wa N B st vw vv o W) (n : Nat) : SnapM.TW w wa N B st vw vv o (W.drewN n) :=
  ⟨h.sw.after (below_dN (Below.refl _ _) n), h.op.drewN n, h.res.drewN n, h.kept.trans (SnapM.Kept.of_below (below_dN (Below.refl _ _) n))⟩
theorem SnapM.TW.alloc {w wa : World} {N B : Nat} {st : SnSt} {vw vv : Nat → Value} {o : OpM} {W : World} (h : SnapM.TW w wa N B st vw vv o W) (ob : Obj) : SnapM.TW w wa N B st vw vv o (W.alloc ob) :=
  ⟨h.sw.alloc ob, h.op.alloc ob, h.res.alloc ob, h.kept.alloc ob⟩

theorem SnapM.TW.after {w wa : World} {N B : Nat} {st : SnSt} {vw vv : Nat → Value} {o : OpM} {W w' : World} (h : SnapM.TW w wa N B st vw vv o W) (hb : Below W.heap.size W w') : SnapM.TW w wa N B st vw vv o w' :=
  ⟨h.sw.after hb, h.op.after hb, h.res.after hb, h.kept.trans (SnapM.Kept.of_below hb)⟩
theorem SnapM.TW.other {w wa : World} {N B : Nat} {st : SnSt} {vw vv : Nat → Value} {o : OpM} {W : World} (h : SnapM.TW w wa N B st vw vv o W) {C : Nat} {D : List Value} (hC : Blk W C 65 D) (h1 : B + 1 < C) (h2 : w.heap.size ≤ B) (h3 : wa.heap.size ≤ C) (i : Nat) (v : Value) : SnapM.TW w wa N B st vw vv o (W.setCell ⟨C, i, none⟩ v) :=
  ⟨h.sw.other hC (by omega) (by decide) (by decide) (by decide) _ _, h.op.other (by show B ≠ C; omega) _, h.res.other (by show B + 1 ≠ C; omega) _, h.kept.set (Or.inr h3) _ _⟩

set_option maxRecDepth 20000 in
set_option maxHeartbeats 8000000 in
theorem take_any {w wa : World} {N : Nat} {st : SnSt} {vw vv : Nat → Value} (h : SnapM.SW w N st vw vv wa) (o : OpM) (ho : RunM.bad o = 0) {m : Nat} (hb : SnapM.Bnd st m) (hm : m ≤ 199) :
    Calls Try.prog 51 #[.pointer (some ⟨N, 0, none⟩), .agg #[.int .i64 o.tx, .int .i64 o.kind, .int .i64 o.item]] wa fun e w' =>
      ∃ vw' vv', e = .returned (.agg #[.bool (SnapM.did st o).ok, .int .i64 (SnapM.did st o).from_]) ∧ SnapM.SW w N (SnapM.step st o) vw' vv' w' ∧ SnapM.Kept N wa w' := by
  have H := box h; have Hbn := box hb
  obtain ⟨b1, b2, b3, b4, b5, b6, b7⟩ := RunM.bad_zero ho
  clear b7
  obtain ⟨tx, kind, item⟩ := o
  simp only at b1 b2 b3 b4 b5 b6
  obtain ⟨x, rfl⟩ := Int.eq_ofNat_of_zero_le b1
  obtain ⟨it, rfl⟩ := Int.eq_ofNat_of_zero_le b3
  have hx : x < 12 := by omega
  have hit : it < 20 := by omega
  have hlN := h.b0.lt
  have Hkind := box (show kind = 1 ∨ kind = 2 ∨ kind = 3 ∨ kind = 4 by omega)
  clear h hb ho b3 b4 b5 b6
  go_enter Try.func51, Try.ntmps51
  go_upto_region 1 with (fail)
  have hT0 : SnapM.TW w wa N wa.heap.size st vw vv ⟨(x : Int), kind, (it : Int)⟩ ((wa.alloc (.cells [Value.int .i64 (x : Int), .int .i64 kind, .int .i64 (it : Int)].toArray 62)).alloc (.cells [Value.bool false, .int .i64 0].toArray 65)) :=
    ⟨(H.out.alloc _).alloc _, (Blk.new _ _ _).alloc _, Blk.new' (by simp) _ _, ((SnapM.Kept.refl N wa).alloc _).alloc _⟩
  have HT0 := box hT0
  refine name_world (fun W => SnapM.TW w wa N wa.heap.size st vw vv ⟨(x : Int), kind, (it : Int)⟩ W) HT0.out ?_
  clear hT0 HT0
  rintro W hW
  have HW := box hW
  have o0 := hW.op.cell (i := 0) rfl
  have o1 := hW.op.cell (i := 1) rfl
  have o2 := hW.op.cell (i := 2) rfl
  have cb := hW.sw.cell (i := x * 3) (by omega)
  rw [SnapM.cell_began x hx] at cb
  have hBe : N < wa.heap.size := by omega
  have hlB : w.heap.size ≤ wa.heap.size := H.out.below.size
  obtain ⟨B, HB⟩ : ∃ B, Box (wa.heap.size = B) := ⟨_, ⟨rfl⟩⟩
  rw [HB.out] at HW o0 o1 o2 hBe hlB ⊢
  simp only at o0 o1 o2
  clear hW
  go_quiet (fail)
  go_upto_if 17 with (fail)
  go_cut [] (fun wx => ∃ vw2, SnapM.TW w wa N B (SnapM.begin st x) vw2 vv ⟨(x : Int), kind, (it : Int)⟩ wx)
  case first =>
    have HW2 := box (HW.out.dN nq)
    clear o0 o1 o2 cb
    generalize W.drewN nq = W2 at *
    obtain ⟨bg, HBG⟩ : ∃ bg, Box (st.began x = bg) := ⟨_, ⟨rfl⟩⟩
    rw [HBG.out]
    cases bg with
    | true =>
      go_wp2_with fail
      go_meet
      refine ⟨vw, ?_⟩
      rw [SnapM.begin, if_pos HBG.out]
      exact HW2.out
    | false =>
      have cd := HW2.out.sw.cell (i := 36) (by omega)
      rw [SnapM.cell_done] at cd
      have f0 := HW2.out.sw.b0.frozen (x * 3)
      have f1 := HW2.out.sw.b0.frozen (x * 3 + 1)
      have f2 := HW2.out.sw.b0.frozen (x * 3 + 2)
      have t0 := HW2.out.sw.cell (i := x * 3) (by omega)
      have t1 := HW2.out.sw.cell (i := x * 3 + 1) (by omega)
      have t2 := HW2.out.sw.cell (i := x * 3 + 2) (by omega)
      rw [SnapM.cell_began x hx] at t0
      rw [SnapM.cell_fr x hx] at t1
      rw [SnapM.cell_wr x hx] at t2
      go_wp2_with fail
      go_meet
      refine ⟨upd vw x (.slice none 0 0), ?_⟩
      rw [SnapM.begin, if_neg (by rw [HBG.out]; simp)]
      exact ⟨((HW2.out.sw.setBegan hx true).setFr hx st.done).setNone hx, ((HW2.out.op.other (by show B ≠ N; omega) _).other (by show B ≠ N; omega) _).other (by show B ≠ N; omega) _,
        ((HW2.out.res.other (by show B + 1 ≠ N; omega) _).other (by show B + 1 ≠ N; omega) _).other (by show B + 1 ≠ N; omega) _, ((HW2.out.kept.set (Or.inl rfl) _ _).set (Or.inl rfl) _ _).set (Or.inl rfl) _ _⟩
  case rest =>
  obtain ⟨vw2, hcut⟩ := hcut
  clear o0 o1 o2 cb HW H
  have HW := box hcut
  have hB2 := Hbn.out.begin x
  have HB2 := box hB2
  have HD : Box (∀ d, d = SnapM.did st ⟨(x : Int), kind, (it : Int)⟩ ↔ d = (if kind = 1 then ⟨true, if (it : Int) ∈ (SnapM.begin st x).wr x then (x : Int) else SnapM.newest ((SnapM.begin st x).vs it) ((SnapM.begin st x).fr x)⟩ else if kind = 3 then ⟨!SnapM.clash (SnapM.begin st x) x, -1⟩ else ⟨true, -1⟩ : DidM)) := ⟨fun d => Iff.rfl⟩
  have HS : Box (SnapM.step st ⟨(x : Int), kind, (it : Int)⟩ = if kind = 2 then (if (it : Int) ∈ (SnapM.begin st x).wr x then SnapM.begin st x else { SnapM.begin st x with wr := upd (SnapM.begin st x).wr x ((SnapM.begin st x).wr x ++ [(it : Int)]) }) else if kind = 3 then SnapM.commit (SnapM.begin st x) x (x : Int) else SnapM.begin st x) := ⟨rfl⟩
  have o1 := hcut.op.cell (i := 1) rfl
  have o0 := hcut.op.cell (i := 0) rfl
  have o2 := hcut.op.cell (i := 2) rfl
  have hr0 := hcut.res.cell (i := 0) rfl
  have hr1 := hcut.res.cell (i := 1) rfl
  have hf0 := hcut.res.frozen 0
  have hf1 := hcut.res.frozen 1
  have hlC := hcut.res.lt
  have hlC0 := hcut.op.lt
  have hlCN := hcut.sw.b0.lt
  simp only at o0 o1 o2
  clear hcut hB2
  generalize SnapM.begin st x = s at *
  rcases Hkind.out with rfl | rfl | rfl | rfl
  · go_upto_region 7 with (fail)
    refine name_world (fun W => SnapM.TW w wa N B s vw2 vv ⟨(x : Int), 1, (it : Int)⟩ W ∧ Blk W wc.heap.size 65 [.bool true, .int .i64 (-1)]) ⟨HW.out.alloc _, Blk.new _ _ _⟩ ?_
    rintro W ⟨hw, hC⟩
    have HW := box hw; have HC := box hC
    have hCB : B + 1 < wc.heap.size := hlC
    have hCN : N < wc.heap.size := hlCN
    have hCa : wa.heap.size ≤ wc.heap.size := by have := HB.out; omega
    clear hr0 hr1 hf0 hf1 o0 o1 o2 hlC hlC0 hlCN
    generalize wc.heap.size = C at *
    have o2 := hw.op.cell (i := 2) rfl
    have o3 := hw.sw.cell (i := x * 3 + 1) (by omega)
    rw [SnapM.cell_fr x hx] at o3
    simp only at o2
    have c1 := hC.cell (i := 1) rfl
    have f1 := hC.frozen 1
    have hlv : (s.vs it).length ≤ 9000000000 := Nat.le_trans (HB2.out.v it) (Nat.le_trans (Nat.mul_le_mul (show m ≤ 199 by omega) (show m ≤ 199 by omega)) (by decide))
    clear hw hC
    go_cut [] (fun wx => SnapM.TW w wa N B s vw2 vv ⟨(x : Int), 1, (it : Int)⟩ wx ∧ Blk wx C 65 [.bool true, .int .i64 (SnapM.newest (s.vs it) (s.fr x))])
    case first =>
      go_region_held3 (fun w' => w'.cell? ⟨B, 2, none⟩ = some (.int .i64 (it : Int)) ∧ w'.cell? ⟨N, x * 3 + 1, none⟩ = some (.int .i64 (s.fr x))) (first | exact ⟨o2, o3⟩ | assumption | exact hset _) (first
        | (go_at_call 65; refine (newest_any HW.out.sw.drew it hit (s.fr x) hlv).mono ?_; rintro e w5 ⟨rfl, hb5⟩; have hb5' := below_tr (Below.refl _ W).drew hb5; have HW5 := box (SnapM.TW.after HW.out hb5'); have HC5 := box (HC.out.after hb5'); have q1 := HC5.out.cell (i := 1) rfl; have qf := HC5.out.frozen 1; have hh : w5.cell? ⟨B, 2, none⟩ = some (.int .i64 (it : Int)) ∧ w5.cell? ⟨N, x * 3 + 1, none⟩ = some (.int .i64 (s.fr x)) := ⟨HW5.out.op.cell (i := 2) rfl, (SnapM.cell_fr (st := s) (vw := vw2) (vv := vv) x hx) ▸ HW5.out.sw.cell (i := x * 3 + 1) (by omega)⟩; have hset : ∀ v, (w5.setCell ⟨C, 1, none⟩ v).cell? ⟨B, 2, none⟩ = some (.int .i64 (it : Int)) ∧ (w5.setCell ⟨C, 1, none⟩ v).cell? ⟨N, x * 3 + 1, none⟩ = some (.int .i64 (s.fr x)) := fun v => ⟨(HW5.out.op.other (p := ⟨C, 1, none⟩) (by show B ≠ C; omega) v).cell (i := 2) rfl, by rw [← hh.2]; exact World.cell?_of_block (Below.heap_setCell _ _ _ _ (by show N ≠ C; omega))⟩; clear hb5 hb5'))
      go_step
      go_step
      go_meet
      exact ⟨HW5.out.other HC5.out (by omega) hlB (by omega) _ _, HC5.out.set 1 _⟩
    case rest =>
    obtain ⟨hw, hC⟩ := hcut
    clear HW HC o2 o3 c1 f1
    have HW := box hw; have HC := box hC
    obtain ⟨ao, cap, hv, _, hat, _, _⟩ := IntsAt.own (hw.sw.fw.own x hx)
    have o2 := hw.op.cell (i := 2) rfl
    have cw := hw.sw.cell (i := x * 3 + 2) (by omega)
    rw [SnapM.cell_wr x hx, hv] at cw
    simp only at o2
    have HAT := box hat
    have hlw : (s.wr x).length ≤ 9000000000000000000 := Nat.le_trans (HB2.out.w x) (by omega)
    clear hw hC hat hv
    go_upto_region 8 with (fail)
    go_region_held3 (fun w' => w'.cell? ⟨B, 2, none⟩ = some (.int .i64 (it : Int)) ∧ w'.cell? ⟨N, x * 3 + 2, none⟩ = some (.slice ao (s.wr x).length cap)) (first | exact ⟨o2, cw⟩ | assumption) (first | (go_at_call 63; refine (contains_ints (s.wr x) (it : Int) ao cap wc.drew HAT.out hlw).mono ?_; rintro e w6 ⟨rfl, rfl⟩))
    have HW7 : Box (SnapM.TW w wa N B s vw2 vv ⟨(x : Int), 1, (it : Int)⟩ wc.drew) := ⟨HW.out.dN 1⟩
    have HC7 : Box (Blk wc.drew C 65 [.bool true, .int .i64 (SnapM.newest (s.vs it) (s.fr x))]) := ⟨HC.out.drew⟩
    clear o2 cw HW HC HAT hlw
    generalize wc.drew = W7 at *
    by_cases hmem : (it : Int) ∈ s.wr x
    · have hm := box hmem
      rw [decide_eq_true hmem]
      clear hmem
      have o0 := HW7.out.op.cell (i := 0) rfl
      have c1 := HC7.out.cell (i := 1) rfl
      have f1 := HC7.out.frozen 1
      simp only at o0
      go_upto_region 15 with (fail)
      refine name_world (fun W => SnapM.TW w wa N B s vw2 vv ⟨(x : Int), 1, (it : Int)⟩ W ∧ Blk W C 65 [.bool true, .int .i64 (x : Int)]) ⟨HW7.out.other HC7.out (by omega) hlB (by omega) _ _, HC7.out.set 1 _⟩ ?_
      rintro W8 ⟨hw8, hC8⟩
      have HW8 := box hw8; have HC8 := box hC8
      clear hw8 hC8 o0 c1 f1 HW7 HC7
      have e0 := HC8.out.cell (i := 0) rfl
      have e1 := HC8.out.cell (i := 1) rfl
      have hr0 := HW8.out.res.cell (i := 0) rfl
      have hr1 := HW8.out.res.cell (i := 1) rfl
      have hf0 := HW8.out.res.frozen 0
      have hf1 := HW8.out.res.frozen 1
      have hlC := HW8.out.res.lt
      go_wp2_with fail
      refine bodyPost_ret (v := .agg #[.bool true, .int .i64 ((x : Int))]) (by simp [results, Try.results51, go_sem, hr0, hr1]) rfl ⟨vw2, vv, ?_, ?_, ?_⟩
      · rw [← (HD.out ⟨true, (x : Int)⟩).2 (by rw [if_pos trivial]; simp [hm.out])]
      · rw [HS.out]
        exact (HW8.out.sw.other HW8.out.res (by omega) (by decide) (by decide) (by decide) _ _).other (HW8.out.res.set 0 _) (by omega) (by decide) (by decide) (by decide) _ _
      · exact (HW8.out.kept.set (Or.inr (by have := HB.out; omega)) _ _).set (Or.inr (by have := HB.out; omega)) _ _
    · have hm := box hmem
      rw [decide_eq_false hmem]
      clear hmem
      have HW8 := HW7; have HC8 := HC7
      have e0 := HC8.out.cell (i := 0) rfl
      have e1 := HC8.out.cell (i := 1) rfl
      have hr0 := HW8.out.res.cell (i := 0) rfl
      have hr1 := HW8.out.res.cell (i := 1) rfl
      have hf0 := HW8.out.res.frozen 0
      have hf1 := HW8.out.res.frozen 1
      have hlC := HW8.out.res.lt
      go_wp2_with fail
      refine bodyPost_ret (v := .agg #[.bool true, .int .i64 (SnapM.newest (s.vs it) (s.fr x))]) (by simp [results, Try.results51, go_sem, hr0, hr1]) rfl ⟨vw2, vv, ?_, ?_, ?_⟩
      · rw [← (HD.out ⟨true, SnapM.newest (s.vs it) (s.fr x)⟩).2 (by rw [if_pos trivial]; simp [hm.out])]
      · rw [HS.out]
        exact (HW8.out.sw.other HW8.out.res (by omega) (by decide) (by decide) (by decide) _ _).other (HW8.out.res.set 0 _) (by omega) (by decide) (by decide) (by decide) _ _
      · exact (HW8.out.kept.set (Or.inr (by have := HB.out; omega)) _ _).set (Or.inr (by have := HB.out; omega)) _ _
  · go_upto_region 11 with (fail)
    refine name_world (fun W => SnapM.TW w wa N B s vw2 vv ⟨(x : Int), 2, (it : Int)⟩ W ∧ Blk W wc.heap.size 65 [.bool true, .int .i64 (-1)]) ⟨HW.out.alloc _, Blk.new _ _ _⟩ ?_
    rintro W ⟨hw, hC⟩
    have HW := box hw; have HC := box hC
    have hCB : B + 1 < wc.heap.size := hlC
    have hCN : N < wc.heap.size := hlCN
    have hCa : wa.heap.size ≤ wc.heap.size := by have := HB.out; omega
    clear hr0 hr1 hf0 hf1 o0 o1 o2 hlC hlC0 hlCN
    generalize wc.heap.size = C at *
    obtain ⟨ao, cap, hv, _, hat, _, _⟩ := IntsAt.own (hw.sw.fw.own x hx)
    have o2 := hw.op.cell (i := 2) rfl
    have cw := hw.sw.cell (i := x * 3 + 2) (by omega)
    rw [SnapM.cell_wr x hx, hv] at cw
    simp only at o2
    have HAT := box hat; have HVX := box hv
    have hlw : (s.wr x).length ≤ 9000000000000000000 := Nat.le_trans (HB2.out.w x) (by omega)
    clear hw hC hat hv
    go_region_held3 (fun w' => w'.cell? ⟨B, 2, none⟩ = some (.int .i64 (it : Int)) ∧ w'.cell? ⟨N, x * 3 + 2, none⟩ = some (.slice ao (s.wr x).length cap)) (first | exact ⟨o2, cw⟩ | assumption) (first | (go_at_call 63; refine (contains_ints (s.wr x) (it : Int) ao cap W.drew HAT.out hlw).mono ?_; rintro e w6 ⟨rfl, rfl⟩))
    have HW7 : Box (SnapM.TW w wa N B s vw2 vv ⟨(x : Int), 2, (it : Int)⟩ W.drew) := ⟨HW.out.dN 1⟩
    have HC7 : Box (Blk W.drew C 65 [.bool true, .int .i64 (-1)]) := ⟨HC.out.drew⟩
    clear o2 cw HW HC HAT hlw
    generalize W.drew = W7 at *
    by_cases hmem : (it : Int) ∈ s.wr x
    · have hm := box hmem
      rw [decide_eq_true hmem]
      clear hmem
      have HW8 := HW7; have HC8 := HC7
      have e0 := HC8.out.cell (i := 0) rfl
      have e1 := HC8.out.cell (i := 1) rfl
      have hr0 := HW8.out.res.cell (i := 0) rfl
      have hr1 := HW8.out.res.cell (i := 1) rfl
      have hf0 := HW8.out.res.frozen 0
      have hf1 := HW8.out.res.frozen 1
      have hlC := HW8.out.res.lt
      go_wp2_with fail
      refine bodyPost_ret (v := .agg #[.bool true, .int .i64 (-1)]) (by simp [results, Try.results51, go_sem, hr0, hr1]) rfl ⟨vw2, vv, ?_, ?_, ?_⟩
      · rw [← (HD.out ⟨true, -1⟩).2 (by simp)]
      · rw [HS.out, if_pos trivial]; rw [if_pos hm.out]
        exact (HW8.out.sw.other HW8.out.res (by omega) (by decide) (by decide) (by decide) _ _).other (HW8.out.res.set 0 _) (by omega) (by decide) (by decide) (by decide) _ _
      · exact (HW8.out.kept.set (Or.inr (by have := HB.out; omega)) _ _).set (Or.inr (by have := HB.out; omega)) _ _
    · have hm := box hmem
      rw [decide_eq_false hmem]
      clear hmem
      go_upto_region 12 with (fail)
      obtain ⟨i0, hi0, hz0, hz1, hz2⟩ := info_parts Try.infoSnI
      have d2 := HW7.out.op.cell (i := 2) rfl
      simp only at d2
      have dw := HW7.out.sw.cell (i := x * 3 + 2) (by omega)
      rw [SnapM.cell_wr x hx] at dw
      have fw := HW7.out.sw.b0.frozen (x * 3 + 2)
      have ownr : W7.ownsRow w.heap.size 3 1 (vw2 x) (s.wr x).length (intVals (s.wr x)) := HW7.out.sw.fw.own x hx
      have e3 := HW7.out.sw.b0.lt
      have e5 := HW7.out.op.lt
      have eb := HW7.out.sw.below.size
      have hlr : (s.wr x).length ≤ 200 := Nat.le_trans (HB2.out.w x) (by omega)
      rw [HVX.out] at dw ownr
      have a2 : (Value.slice ao (s.wr x).length cap).ownBlock ≠ some N := HW7.out.sw.b0.ne_own ownr (by decide)
      have e3' : N < W7.drew.heap.size := e3
      have e5' : B < W7.drew.heap.size := e5
      refine wp_meetF (fun wx => ∃ v', SnapM.TW w wa N B { s with wr := upd s.wr x (s.wr x ++ [(it : Int)]) } (upd vw2 x v') vv ⟨(x : Int), 2, (it : Int)⟩ wx ∧ Blk wx C 65 [.bool true, .int .i64 (-1)]) ?_
      apply Exists.intro
      constructor
      · go_region_law ((refine step_append_lies _ (by rfl) _ _ _ (by rfl) w.heap.size 3 i0 _ 1 8 Try.underlying40 hi0 hz0 hz1 hz2 rfl (by omega) (.slice ao (s.wr x).length cap) _ _ (by rfl) ((ownr.alloc _).drew) ⟨W7.heap.size, 0, none⟩ 1 1 [.int .i64 (it : Int)] (by rfl) (by rfl) (World.news_of_block (cs := #[.int .i64 (it : Int)]) (t := 3) (fr := (0, 0)) (heap_alloc_new W7 _)) (by simp [Value.oneCell']) (by omega) (by unfold maxLen; omega) (by omega) (by simp; omega) (W7.heap.size + 1) (by simp) ?_; intro gg gcap w2 hown2 hgrow hat hlt2; have g1' := ((HW7.out.sw.b0.alloc _).drew.grown hgrow a2); have g1 := g1'.tabCell (i := x * 3 + 2) (by omega); have g2 := g1'.frozen (x * 3 + 2); rw [SnapM.cell_wr x hx, HVX.out] at g1))
        all_goals
          have hrow := (HW7.out.sw.alloc (.cells #[.int .i64 (it : Int)] 3)).drew
          have hkk := (HW7.out.kept.alloc (.cells #[.int .i64 (it : Int)] 3)).drew
          have hB1 := ((HW7.out.op.alloc (.cells #[.int .i64 (it : Int)] 3)).drew.grown hgrow (HW7.out.op.ne_own ownr (by decide))).other (p := ⟨N, x * 3 + 2, none⟩) (by show B ≠ N; omega) (.slice (some ⟨gg, 0, none⟩) ((s.wr x).length + 1) gcap)
          have hB2 := ((HW7.out.res.alloc (.cells #[.int .i64 (it : Int)] 3)).drew.grown hgrow (HW7.out.res.ne_own ownr (by decide))).other (p := ⟨N, x * 3 + 2, none⟩) (by show B + 1 ≠ N; omega) (.slice (some ⟨gg, 0, none⟩) ((s.wr x).length + 1) gcap)
          have hB3 := ((HC7.out.alloc (.cells #[.int .i64 (it : Int)] 3)).drew.grown hgrow (HC7.out.ne_own ownr (by decide))).other (p := ⟨N, x * 3 + 2, none⟩) (by show C ≠ N; omega) (.slice (some ⟨gg, 0, none⟩) ((s.wr x).length + 1) gcap)
          exact ⟨gg, gcap, rfl, _, ⟨hrow.putW hx hown2 (by rw [HVX.out]; exact hgrow) (by rw [HVX.out]; exact hat.imp id (fun h => by rw [h]; exact (World.size_alloc _ _).symm)), hB1, hB2, (hkk.grown ((ownr.alloc _).drew) (Or.inl rfl) hgrow).set (Or.inl rfl) _ _⟩, hB3⟩
      intro gg gcap wx hcut
      obtain ⟨v', hw8, hC8⟩ := hcut
      have HW8 := box hw8; have HC8 := box hC8
      clear hw8 hC8 d2 dw fw ownr HW7 HC7
      have e0 := HC8.out.cell (i := 0) rfl
      have e1 := HC8.out.cell (i := 1) rfl
      have hr0 := HW8.out.res.cell (i := 0) rfl
      have hr1 := HW8.out.res.cell (i := 1) rfl
      have hf0 := HW8.out.res.frozen 0
      have hf1 := HW8.out.res.frozen 1
      have hlC := HW8.out.res.lt
      go_wp2_with fail
      refine bodyPost_ret (v := .agg #[.bool true, .int .i64 (-1)]) (by simp [results, Try.results51, go_sem, hr0, hr1]) rfl ⟨(upd vw2 x v'), vv, ?_, ?_, ?_⟩
      · rw [← (HD.out ⟨true, -1⟩).2 (by simp)]
      · rw [HS.out, if_pos trivial]; rw [if_neg hm.out]
        exact (HW8.out.sw.other HW8.out.res (by omega) (by decide) (by decide) (by decide) _ _).other (HW8.out.res.set 0 _) (by omega) (by decide) (by decide) (by decide) _ _
      · exact (HW8.out.kept.set (Or.inr (by have := HB.out; omega)) _ _).set (Or.inr (by have := HB.out; omega)) _ _
  · go_upto_region 14 with (fail)
    refine name_world (fun W => SnapM.TW w wa N B s vw2 vv ⟨(x : Int), 3, (it : Int)⟩ W ∧ Blk W wc.heap.size 65 [.bool true, .int .i64 (-1)]) ⟨HW.out.alloc _, Blk.new _ _ _⟩ ?_
    rintro W ⟨hw, hC⟩
    have HW := box hw; have HC := box hC
    have hCB : B + 1 < wc.heap.size := hlC
    have hCN : N < wc.heap.size := hlCN
    have hCa : wa.heap.size ≤ wc.heap.size := by have := HB.out; omega
    clear hr0 hr1 hf0 hf1 o0 o1 o2 hlC hlC0 hlCN
    generalize wc.heap.size = C at *
    have o0 := hw.op.cell (i := 0) rfl
    simp only at o0
    clear hw hC
    go_wp2_with fail
    refine (commit_any HW.out.sw x hx (x : Int) HB2.out (by omega)).mono ?_
    rintro e w5 ⟨vv5, rfl, hsw5, hk5⟩
    have HW5 : Box (SnapM.TW w wa N B (SnapM.commit s x (x : Int)) vw2 vv5 ⟨(x : Int), 3, (it : Int)⟩ w5) := ⟨⟨hsw5, hk5.blk HW.out.op (by omega) (by decide) (by decide), hk5.blk HW.out.res (by omega) (by decide) (by decide), HW.out.kept.trans hk5⟩⟩
    have HC5 := box (hk5.blk HC.out (by omega) (by decide) (by decide))
    clear hsw5 hk5 o0 HW HC
    have c0 := HC5.out.cell (i := 0) rfl
    have f0 := HC5.out.frozen 0
    go_upto_region 15 with (fail)
    refine name_world (fun W => SnapM.TW w wa N B (SnapM.commit s x (x : Int)) vw2 vv5 ⟨(x : Int), 3, (it : Int)⟩ W ∧ Blk W C 65 [.bool (!SnapM.clash s x), .int .i64 (-1)]) ⟨HW5.out.other HC5.out (by omega) hlB (by omega) _ _, HC5.out.set 0 _⟩ ?_
    rintro W8 ⟨hw8, hC8⟩
    have HW8 := box hw8; have HC8 := box hC8
    clear hw8 hC8 c0 f0 HW5 HC5
    have e0 := HC8.out.cell (i := 0) rfl
    have e1 := HC8.out.cell (i := 1) rfl
    have hr0 := HW8.out.res.cell (i := 0) rfl
    have hr1 := HW8.out.res.cell (i := 1) rfl
    have hf0 := HW8.out.res.frozen 0
    have hf1 := HW8.out.res.frozen 1
    have hlC := HW8.out.res.lt
    go_wp2_with fail
    refine bodyPost_ret (v := .agg #[.bool (!SnapM.clash s x), .int .i64 (-1)]) (by simp [results, Try.results51, go_sem, hr0, hr1]) rfl ⟨vw2, vv5, ?_, ?_, ?_⟩
    · rw [← (HD.out ⟨!SnapM.clash s x, -1⟩).2 (by simp)]
    · rw [HS.out]
      exact (HW8.out.sw.other HW8.out.res (by omega) (by decide) (by decide) (by decide) _ _).other (HW8.out.res.set 0 _) (by omega) (by decide) (by decide) (by decide) _ _
    · exact (HW8.out.kept.set (Or.inr (by have := HB.out; omega)) _ _).set (Or.inr (by have := HB.out; omega)) _ _
  · go_upto_region 15 with (fail)
    refine name_world (fun W => SnapM.TW w wa N B s vw2 vv ⟨(x : Int), 4, (it : Int)⟩ W ∧ Blk W wc.heap.size 65 [.bool true, .int .i64 (-1)]) ⟨HW.out.alloc _, Blk.new _ _ _⟩ ?_
    rintro W ⟨hw, hC⟩
    have HW := box hw
    have e0 := hC.cell (i := 0) rfl
    have e1 := hC.cell (i := 1) rfl
    have hr0 := hw.res.cell (i := 0) rfl
    have hr1 := hw.res.cell (i := 1) rfl
    have hf0 := hw.res.frozen 0
    have hf1 := hw.res.frozen 1
    have hlC := hw.res.lt
    clear hw hC
    generalize wc.heap.size = C at *
    go_wp2_with fail
    refine bodyPost_ret (v := .agg #[.bool true, .int .i64 (-1)]) (by simp [results, Try.results51, go_sem, hr0, hr1]) rfl ⟨?_, ⟨vw2, vv, ?_⟩, ?_⟩
    · rw [← (HD.out _).2 rfl]; rfl
    · rw [HS.out]
      exact (HW.out.sw.other HW.out.res (by omega) (by decide) (by decide) (by decide) _ _).other (HW.out.res.set 0 _) (by omega) (by decide) (by decide) (by decide) _ _
    · exact (HW.out.kept.set (Or.inr (by have := HB.out; omega)) _ _).set (Or.inr (by have := HB.out; omega)) _ _
end Go.Proofs.Ytfmgncfikaefhaa
