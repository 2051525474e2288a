/- redo.Recover: what it computes. -/
import Derived.Test.YtfmgncfikaefhaaRedoB
import Derived.Test.YtfmgncfikaefhaaRedoV
import Derived.Test.YtfmgncfikaefhaaSlFind
import Derived.Shelf.RegionOpen
import Derived.Test.YtfmgncfikaefhaaDag
namespace Go.Proofs.Ytfmgncfikaefhaa
open Go.RowKit Go.Lib Go.Shelf

attribute [local go_sem] Oper.semAt_some

theorem RedoM.won_snoc (l : List RecM) (r : RecM) (t : Int) : RedoM.won (l ++ [r]) t = (RedoM.won l t || (decide (r.tx = t) && !decide (r.kind = 1))) := by
  unfold RedoM.won
  rw [List.any_append]
  simp

/-- Recover's state in memory. -/
structure RedoRW (w : World) (B3 B5 B8 B9 b0 : Nat) (v : Value) (out : List RecM) (p : Int → PageM) (ov : Int → Bool) (wr : World) : Prop where
  pg : Blk wr B3 28 (pgVals p)
  res : Blk wr B5 28 (pgVals RedoM.zero)
  box : Blk wr B8 22 [v]
  over : Blk wr B9 90 (Tab 12 (fun i => .bool (ov (i : Int))))
  own : wr.ownsRow b0 25 5 v out.length (recsVals out)
  below : Below w.heap.size w wr
theorem RedoRW.alloc {w wr : World} {B3 B5 B8 B9 b0 : Nat} {v : Value} {out : List RecM} {p : Int → PageM} {ov : Int → Bool} (h : RedoRW w B3 B5 B8 B9 b0 v out p ov wr) (o : Obj) : RedoRW w B3 B5 B8 B9 b0 v out p ov (wr.alloc o) :=
  ⟨h.pg.alloc o, h.res.alloc o, h.box.alloc o, h.over.alloc o, h.own.alloc o, h.below.alloc h.below.size o⟩

theorem RedoRW.ownFrom {w wr wx : World} {B3 B5 B8 B9 b0 B : Nat} {v : Value} {out : List RecM} {p : Int → PageM} {ov : Int → Bool} {row : Option Nat} (h : RedoRW w B3 B5 B8 B9 b0 v out p ov wr) (hB : w.heap.size ≤ B) (hg : wr.grownBy wx row) (hr : ∀ r, row = some r → B ≤ r ∧ ∃ o : Obj, wr.heap[r]? = some o ∧ o.isCells = false) : RedoRW w B3 B5 B8 B9 b0 v out p ov wx :=
  have hr2 := fun r e => (hr r e).2
  ⟨h.pg.ownFrom hg hr2, h.res.ownFrom hg hr2, h.box.ownFrom hg hr2, h.over.ownFrom hg hr2, own_ownFrom h.own hg hr2, h.below.grown hg h.below.size (fun j e => by have := (hr j e).1; omega)⟩
/-- Where undoing stands, so much having come. -/
def RedoM.at_ (l : List RecM) (p : Int → PageM) (pre : List RecA) : RedoM.U := RedoM.undo (RedoM.won l) ⟨l, RedoM.redo l p, fun _ => false⟩ (pre.map (fun x => x.1.2)).reverse
theorem RedoM.at_snoc (l : List RecM) (p : Int → PageM) (pre : List RecA) (x : RecA) : RedoM.at_ l p (pre ++ [x]) = RedoM.undoStep (RedoM.won l) (RedoM.at_ l p pre) x.1.2 := by
  unfold RedoM.at_
  rw [List.map_append, List.reverse_append]
  rfl
theorem RedoM.undo_out_len (w : Int → Bool) (u : RedoM.U) : ∀ q, (RedoM.undo w u q).out.length ≤ u.out.length + q.length
  | [] => by simp [RedoM.undo]
  | r :: q => by
    have ih := RedoM.undo_out_len w u q
    rw [RedoM.undo]
    unfold RedoM.undoStep
    split
    · simp only [List.length_cons]; omega
    · simp only [List.length_append, List.length_cons, List.length_nil]; omega
theorem RedoM.at_len (l : List RecM) (p : Int → PageM) (pre : List RecA) : (RedoM.at_ l p pre).out.length ≤ l.length + pre.length := by
  have := RedoM.undo_out_len (RedoM.won l) ⟨l, RedoM.redo l p, fun _ => false⟩ (pre.map (fun x => x.1.2)).reverse
  simpa [RedoM.at_] using this
def RedoI (w : World) (B3 B5 B8 B9 B12 b0 Bs : Nat) (v0 : Value) (l : List RecM) (p : Int → PageM) (pre : List RecA) (W : World) : Prop :=
  ∃ v, RedoRW w B3 B5 B8 B9 b0 v (RedoM.at_ l p pre).out (RedoM.at_ l p pre).pg (RedoM.won l) W ∧ Blk W B12 90 (Tab 12 fun i => .bool ((RedoM.at_ l p pre).lo (i : Int))) ∧ Blk W Bs 22 [v0]
theorem RedoI.ownFrom (w : World) (B3 B5 B8 B9 B12 b0 Bs B : Nat) (v0 : Value) (l : List RecM) (p : Int → PageM) (hB : w.heap.size ≤ B) : OwnFrom B (RedoI w B3 B5 B8 B9 B12 b0 Bs v0 l p) :=
  fun _ _ _ _ ⟨v, h1, h2, h3⟩ hg hr => ⟨v, h1.ownFrom hB hg hr, h2.ownFrom hg (fun r e => (hr r e).2), h3.ownFrom hg (fun r e => (hr r e).2)⟩
theorem recs_back {l : List RecM} (h : RedoM.Inv l) : ∃ zs : List RecA, zs.map Subtype.val = backL l := by
  refine ⟨(backL l).pmap Subtype.mk (fun x hx => ?_), ?_⟩
  · unfold backL at hx
    obtain ⟨j, hj, rfl⟩ := List.mem_map.1 hx
    have hj' : j < l.length := by simpa using hj
    have hlt : l.length - 1 - j < l.length := by omega
    dsimp only
    rw [List.getD_eq_getElem?_getD, List.getElem?_eq_getElem hlt]
    have a := h.tx _ (List.getElem_mem hlt)
    have b := h.item _ (List.getElem_mem hlt)
    exact ⟨a.1, a.2, b.1, b.2⟩
  · rw [List.map_pmap]; simp

theorem RedoRW.other {w wr : World} {B3 B5 B8 B9 b0 b t : Nat} {v : Value} {out : List RecM} {p : Int → PageM} {ov : Int → Bool} {C : List Value} (h : RedoRW w B3 B5 B8 B9 b0 v out p ov wr) (hb : Blk wr b t C) (h3 : B3 ≠ b) (h5 : B5 ≠ b) (h8 : B8 ≠ b) (h9 : B9 ≠ b) (ht : t ≠ 25) (hw : w.heap.size ≤ b) (i : Nat) (x : Value) : RedoRW w B3 B5 B8 B9 b0 v out p ov (wr.setCell ⟨b, i, none⟩ x) :=
  ⟨h.pg.other h3 _, h.res.other h5 _, h.box.other h8 _, h.over.other h9 _, ownsRow_setCell_other h.own (hb.ne_own h.own ht) _, h.below.setCell hw _⟩
theorem RedoRW.appended {w wr w' : World} {B3 B5 B8 B9 : Nat} {v v' : Value} {out out' : List RecM} {p : Int → PageM} {ov : Int → Bool} (h : RedoRW w B3 B5 B8 B9 w.heap.size v out p ov wr) (hown : w'.ownsRow w.heap.size 25 5 v' out'.length (recsVals out')) (hg : wr.grownBy w' v.ownBlock) (h8 : w.heap.size ≤ B8) :
    RedoRW w B3 B5 B8 B9 w.heap.size v' out' p ov (w'.setCell ⟨B8, 0, none⟩ v') := by
  have hp := h.pg.grown hg (h.pg.ne_own h.own (by decide))
  have hr := h.res.grown hg (h.res.ne_own h.own (by decide))
  have hb := h.box.grown hg (h.box.ne_own h.own (by decide))
  have ho := h.over.grown hg (h.over.ne_own h.own (by decide))
  exact ⟨hp.other (hp.ne hb (by decide)) _, hr.other (hr.ne hb (by decide)) _, hb.set 0 v', ho.other (ho.ne hb (by decide)) _, ownsRow_setCell_other hown (hb.ne_own hown (by decide)) _,
    (h.below.grown hg h.below.size (fun j hj => (h.own.lt j hj).1)).setCell h8 _⟩
theorem RedoRW.page {w wr : World} {B3 B5 B8 B9 : Nat} {v : Value} {out : List RecM} {p : Int → PageM} {ov : Int → Bool} (h : RedoRW w B3 B5 B8 B9 w.heap.size v out p ov wr) (h3 : w.heap.size ≤ B3) (h5 : B5 ≠ B3) (i : Nat) (x y : Int) :
    RedoRW w B3 B5 B8 B9 w.heap.size v out (RedoM.upI p (i : Int) ⟨x, y⟩) ov ((wr.setCell ⟨B3, i * 2, none⟩ (.int .i64 x)).setCell ⟨B3, i * 2 + 1, none⟩ (.int .i64 y)) :=
  have hn93 : B9 ≠ B3 := h.over.ne h.pg (by decide)
  have hn83 : B8 ≠ B3 := h.box.ne h.pg (by decide)
  have ho3 := h.pg.ne_own h.own (by decide)
  ⟨pg_set h.pg i _ _, (h.res.other h5 _).other h5 _, (h.box.other hn83 _).other hn83 _, (h.over.other hn93 _).other hn93 _, ownsRow_setCell_other (ownsRow_setCell_other h.own ho3 _) ho3 _, (h.below.setCell h3 _).setCell h3 _⟩
theorem index_lost (f : Nat → Bool) : ∀ (k : Nat), k < 12 → ∀ w, (Instr.index 90 (.agg (Tab 12 fun i => Value.bool (f i)).toArray) (.int .i64 (k : Int))).run Try.prog w = .ok (.bool (f k)) w
  | 0, _ => fun w => by kernel_rfl
  | 1, _ => fun w => by kernel_rfl
  | 2, _ => fun w => by kernel_rfl
  | 3, _ => fun w => by kernel_rfl
  | 4, _ => fun w => by kernel_rfl
  | 5, _ => fun w => by kernel_rfl
  | 6, _ => fun w => by kernel_rfl
  | 7, _ => fun w => by kernel_rfl
  | 8, _ => fun w => by kernel_rfl
  | 9, _ => fun w => by kernel_rfl
  | 10, _ => fun w => by kernel_rfl
  | 11, _ => fun w => by kernel_rfl
theorem own_of_heap {w w' : World} {base e size n : Nat} {v : Value} {xs : List Value} (h : w.ownsRow base e size v n xs) (hw : ∀ g, v.ownBlock = some g → w'.heap[g]? = w.heap[g]?) : w'.ownsRow base e size v n xs := by
  refine ⟨h.1, ?_⟩
  rcases h.2 with h2 | ⟨g, cap, cur, h1, h2, h3, h4⟩
  · exact Or.inl h2
  · exact Or.inr ⟨g, cap, cur, h1, h2, (hw g (by rw [h1]; rfl)).trans h3, h4⟩
theorem check_zero {l : List RecM} (h : RedoM.check l = 0) : RedoM.go RedoM.St.init l = 0 ∧ l.length ≤ 400 := by
  unfold RedoM.check at h
  split at h
  · omega
  · exact ⟨h, by omega⟩

set_option maxRecDepth 100000 in
set_option maxHeartbeats 8000000 in
theorem redoRecover_ok (l : List RecM) (p : Int → PageM) (ao : Option Addr) (cap : Nat) (w : World) (h : RecsAt w ao l) (hnil : ao = none → cap = 0) (hc : RedoM.check l = 0) :
    Calls Try.prog 9 #[.slice ao l.length cap, .agg (pgVals p).toArray] w fun e w' =>
      (∃ v, e = .returned (.tuple #[v, .agg (pgVals (RedoM.recPg l p)).toArray, .int .i64 0]) ∧ w'.ownsRow w.heap.size 25 5 v (RedoM.recOut l p).length (recsVals (RedoM.recOut l p))) ∧ Below w.heap.size w w' := by
  have hgo := check_zero hc
  have HC := box (fun W (hb : Below w.heap.size w W) => redoCheck_any l ao cap W (h.below hb (Nat.le_refl _)) (by omega))
  have HCl := box (fun W (hb : Below w.heap.size w W) => cloneRecs_any l ao cap W (h.below hb (Nat.le_refl _)) hnil (by omega))
  have H := box h
  have HI := box (RedoM.inv_of l hgo.1)
  rw [hc] at HC
  clear h hnil hc
  obtain ⟨N, HN⟩ : ∃ N, Box (l.length = N) := ⟨_, ⟨rfl⟩⟩
  have hN4 : N ≤ 400 := by have := HN.out; omega
  rw [HN.out] at HC HCl ⊢
  clear hgo
  obtain ⟨A, HA⟩ : ∃ A, Box ((pgVals p).toArray = A) := ⟨_, ⟨rfl⟩⟩
  rw [HA.out]
  refine (callsIn_wide (n := 6)).1 ?_
  refine callsIn_of_wp_marks Try.func9 rfl trivial ?_ rfl
  rw [wpIn_wide]
  simp only [Try.ntmps9, List.size_toArray, List.length_cons, List.length_nil, Nat.reduceAdd, Nat.reduceSub, Array.replicate_succ, Array.replicate_zero, List.push_toArray, List.append_toArray, List.nil_append, List.cons_append]
  go_upto_region 1 with (fail)
  refine name_world (fun W => Below w.heap.size w W ∧ Blk W w.heap.size 28 (pgVals p) ∧ Blk W (w.heap.size + 1) 28 (pgVals RedoM.zero)) ⟨((Below.refl _ _).alloc (Nat.le_refl _) _).alloc (by simp) _, ?_, ?_⟩ ?_
  · rw [← HA.out]; exact (Blk.new w (pgVals p) _).alloc _
  · rw [pg_zero]; exact Blk.new' (by simp) (Tab 40 fun _ => .int .i64 0) _
  rintro W ⟨hbW, hpW, hrW⟩
  obtain ⟨B3, HB3⟩ : ∃ x, Box (w.heap.size = x) := ⟨_, ⟨rfl⟩⟩
  obtain ⟨B5, HB5⟩ : ∃ x, Box (w.heap.size + 1 = x) := ⟨_, ⟨rfl⟩⟩
  rw [HB3.out] at hpW
  rw [HB5.out] at hrW ⊢
  rw [HB3.out]
  have HbW := box hbW; have HpW := box hpW; have HrW := box hrW
  clear hbW hpW hrW
  go_wp2_with fail
  refine (HC.out W HbW.out).mono ?_
  rintro e w1 ⟨rfl, hb1⟩
  have Hb1 := box (below_tr HbW.out hb1); have Hp1 := box (HpW.out.after hb1); have Hr1 := box (HrW.out.after hb1)
  clear hb1 HbW HpW HrW
  go_wp2_with fail
  refine (HCl.out w1 Hb1.out).mono ?_
  rintro e w2 ⟨⟨v, rfl, hown⟩, hb2⟩
  have Hb2 := box (below_tr Hb1.out hb2); have Hp2 := box (Hp1.out.after hb2); have Hr2 := box (Hr1.out.after hb2)
  have Hown := box (ownsRow_mono hown Hb1.out.size)
  have Hsz1 := box hb2.size
  obtain ⟨vo, vc, rfl, _, _, _, _⟩ := RecsAt.own (by have h := hown; rw [← HN.out] at h; exact h : w2.ownsRow w1.heap.size 25 5 v l.length (recsVals l))
  clear hown hb2 Hb1 Hp1 Hr1
  go_upto_region 6 with (fail)
  obtain ⟨b0, Hb0⟩ : ∃ x, Box (w.heap.size = x) := ⟨_, ⟨rfl⟩⟩
  refine name_world (fun X => RedoRW w B3 B5 w2.heap.size (w2.heap.size + 1) w.heap.size (.slice vo l.length vc) l p (fun _ => false) X) ⟨(Hp2.out.alloc _).alloc _, (Hr2.out.alloc _).alloc _, ?_, Blk.new' (by simp) (Tab 12 fun _ => .bool false) _, ?_, (Hb2.out.alloc Hb2.out.size _).alloc (by have := Hb2.out.size; simp; omega) _⟩ ?_
  · rw [HN.out]; exact (Blk.new w2 [_] _).alloc _
  · have h := (Hown.out.alloc (.cells #[.slice vo l.length vc] 22)).alloc (.cells (Tab 12 fun _ => Value.bool false).toArray 90)
    rw [HN.out] at h ⊢
    exact h
  rintro X hX
  rw [HN.out] at hX ⊢
  obtain ⟨B8, HB8⟩ : ∃ x, Box (w2.heap.size = x) := ⟨_, ⟨rfl⟩⟩
  obtain ⟨B9, HB9⟩ : ∃ x, Box (w2.heap.size + 1 = x) := ⟨_, ⟨rfl⟩⟩
  rw [HB9.out] at hX ⊢
  rw [HB8.out] at hX ⊢
  have HX := box hX
  have hb8 : w.heap.size ≤ B8 := by have := HB8.out; have := Hb2.out.size; omega
  have hb9 : w.heap.size ≤ B9 := by have := HB9.out; have := Hb2.out.size; omega
  clear hX Hb2 Hp2 Hr2 Hown
  have HW0 : Box (RedoM.redo (l.take 0) p = p ∧ RedoM.won (l.take 0) = fun _ => false) := ⟨rfl, rfl⟩
  go_wp2_with fail
  go_loopw [28] (fun t28 wr => ∃ k : Nat, k ≤ N ∧ t28 = .int .i64 (k : Int) ∧ Box (RedoRW w B3 B5 B8 B9 w.heap.size (.slice vo N vc) l (RedoM.redo (l.take k) p) (RedoM.won (l.take k)) wr)) (fun t28 _ => N - (intOf t28).toNat)
  case atStart => exact ⟨0, Nat.zero_le _, rfl, by rw [HW0.out.1, HW0.out.2]; exact HX⟩
  case round =>
    obtain ⟨k, hk, rfl, HR⟩ := hrel
    by_cases hlt : k < N
    case pos =>
      have hkl : k < l.length := by have := HN.out; omega
      obtain ⟨b, off, rfl, hb, hrow⟩ := (H.out.below HR.out.below (Nat.le_refl _)).resolve_left (by intro h; rw [h] at hkl; simp at hkl)
      obtain ⟨c0, c1, c2, c3, c4⟩ := hrow k hkl
      have HPs : Box (RedoM.redo (l.take (k + 1)) p = if l[k].kind = 1 ∧ (RedoM.redo (l.take k) p l[k].item).lsn < (k : Int) + 1 then RedoM.upI (RedoM.redo (l.take k) p) l[k].item ⟨l[k].new, (k : Int) + 1⟩ else RedoM.redo (l.take k) p) := ⟨by
        rw [List.take_succ_eq_append_getElem hkl, RedoM.redo_snoc, List.length_take, Nat.min_eq_left (by omega)]⟩
      have HWs : Box (RedoM.won (l.take (k + 1)) = fun t => RedoM.won (l.take k) t || (decide (l[k].tx = t) && !decide (l[k].kind = 1))) := ⟨by
        funext t
        rw [List.take_succ_eq_append_getElem hkl, RedoM.won_snoc]⟩
      have hir := HI.out.item l[k] (List.getElem_mem hkl)
      have htr := HI.out.tx l[k] (List.getElem_mem hkl)
      generalize l[k] = r at *
      obtain ⟨kd, tx, it, od, nw⟩ := r
      dsimp only at c0 c1 c2 c3 c4 hir htr HPs HWs
      obtain ⟨i, hi⟩ := Int.eq_ofNat_of_zero_le hir.1
      obtain ⟨t, ht⟩ := Int.eq_ofNat_of_zero_le htr.1
      subst hi; subst ht
      have hi20 : i < 20 := by omega
      have ht12 : t < 12 := by omega
      have hii : (i : Int) < 20 := by omega
      have htt : (t : Int) < 12 := by omega
      obtain ⟨q, Hq⟩ : ∃ q, Box (RedoM.redo (l.take k) p = q) := ⟨_, ⟨rfl⟩⟩
      obtain ⟨ov, Hov⟩ : ∃ q, Box (RedoM.won (l.take k) = q) := ⟨_, ⟨rfl⟩⟩
      rw [Hq.out] at HR HPs
      rw [Hov.out] at HR HWs
      clear hrow hir htr
      go_upto_region 9 with (fail)
      refine name_world (fun X => RedoRW w B3 B5 B8 B9 w.heap.size (.slice vo N vc) l q ov X ∧ Blk X wr.heap.size 25 (RecM.vals ⟨kd, (t : Int), (i : Int), od, nw⟩)) ⟨HR.out.alloc _, Blk.new _ _ _⟩ ?_
      rintro Y ⟨hY, hr⟩
      obtain ⟨Br, HBr⟩ : ∃ x, Box (wr.heap.size = x) := ⟨_, ⟨rfl⟩⟩
      rw [HBr.out] at hr ⊢
      have HY := box hY
      have y0 := hr.cell (i := 0) rfl
      have y1 := hr.cell (i := 1) rfl
      have y2 := hr.cell (i := 2) rfl
      have y4 := hr.cell (i := 4) rfl
      dsimp only at y0 y1 y2 y4
      have z1 := hY.over.tabCell ht12
      have f1 := hY.over.frozen t
      obtain ⟨z2, z3⟩ := pg_at hY.pg hi20
      have f2 := hY.pg.frozen (i * 2)
      have f3 := hY.pg.frozen (i * 2 + 1)
      have w1' : IntKind.i64.wrap ((k : Int) + 1) = (k : Int) + 1 := IntWalk.i64_in _ (by omega)
      have hn35 : B5 ≠ B3 := by have := HB3.out; have := HB5.out; omega
      have hn93 : B9 ≠ B3 := hY.over.ne hY.pg (by decide)
      have hn83 : B8 ≠ B3 := hY.box.ne hY.pg (by decide)
      have hn59 : B5 ≠ B9 := hY.res.ne hY.over (by decide)
      have hn89 : B8 ≠ B9 := hY.box.ne hY.over (by decide)
      have ho3 := hY.pg.ne_own hY.own (by decide)
      have ho9 := hY.over.ne_own hY.own (by decide)
      have hb3 : w.heap.size ≤ B3 := by have := HB3.out; omega
      clear hY hr c0 c1 c2 c3 c4 HR
      by_cases hk1 : kd = 1
      · have q1 : (kd != 1) = false := by simpa using hk1
        by_cases hlt2 : (q (i : Int)).lsn < (k : Int) + 1
        · have q2 : decide ((q (i : Int)).lsn < (k : Int) + 1) = true := decide_eq_true hlt2
          have HW9 : Box (RedoRW w B3 B5 B8 B9 w.heap.size (.slice vo N vc) l (RedoM.redo (l.take (k + 1)) p) (RedoM.won (l.take (k + 1))) ((Y.setCell ⟨B3, i * 2, none⟩ (.int .i64 nw)).setCell ⟨B3, i * 2 + 1, none⟩ (.int .i64 ((k : Int) + 1)))) := ⟨by
            rw [HPs.out, HWs.out, if_pos ⟨hk1, hlt2⟩]
            have e : (fun t' => ov t' || (decide ((t : Int) = t') && !decide (kd = 1))) = ov := by funext t'; simp [hk1]
            rw [e]
            exact ⟨pg_set HY.out.pg i _ _, (HY.out.res.other hn35 _).other hn35 _, (HY.out.box.other hn83 _).other hn83 _, (HY.out.over.other hn93 _).other hn93 _, ownsRow_setCell_other (ownsRow_setCell_other HY.out.own ho3 _) ho3 _, (HY.out.below.setCell hb3 _).setCell hb3 _⟩⟩
          clear hk1 hlt2
          go_wp2_with fail
          go_roundw
          case rel => exact ⟨k + 1, hlt, by go_num, HW9⟩
          case measure => simp [intOf]; omega
        · have q2 : decide ((q (i : Int)).lsn < (k : Int) + 1) = false := decide_eq_false hlt2
          have HW9 : Box (RedoRW w B3 B5 B8 B9 w.heap.size (.slice vo N vc) l (RedoM.redo (l.take (k + 1)) p) (RedoM.won (l.take (k + 1))) Y) := ⟨by
            rw [HPs.out, HWs.out, if_neg (fun h => hlt2 h.2)]
            have e : (fun t' => ov t' || (decide ((t : Int) = t') && !decide (kd = 1))) = ov := by funext t'; simp [hk1]
            rw [e]; exact HY.out⟩
          clear hk1 hlt2
          go_wp2_with fail
          go_roundw
          case rel => exact ⟨k + 1, hlt, by go_num, HW9⟩
          case measure => simp [intOf]; omega
      · have q1 : (kd != 1) = true := by simpa using hk1
        have HW9 : Box (RedoRW w B3 B5 B8 B9 w.heap.size (.slice vo N vc) l (RedoM.redo (l.take (k + 1)) p) (RedoM.won (l.take (k + 1))) (Y.setCell ⟨B9, t, none⟩ (.bool true))) := ⟨by
          rw [HPs.out, HWs.out, if_neg (fun h => hk1 h.1)]
          refine ⟨HY.out.pg.other (Ne.symm hn93) _, HY.out.res.other hn59 _, HY.out.box.other hn89 _, ?_, ownsRow_setCell_other HY.out.own ho9 _, HY.out.below.setCell hb9 _⟩
          have h1 := HY.out.over.tabSet t (.bool true)
          rw [Tab_congr (g := fun j => .bool (ov (j : Int) || (decide ((t : Int) = (j : Int)) && !decide (kd = 1)))) (fun j hj => ?_)] at h1
          · exact h1
          · by_cases e : j = t
            · subst e; rw [upd_same]; simp [hk1]
            · rw [upd_other _ _ e]
              have : ¬ ((t : Int) = (j : Int)) := by omega
              simp [this]⟩
        clear hk1
        go_wp2_with fail
        go_roundw
        case rel => exact ⟨k + 1, hlt, by go_num, HW9⟩
        case measure => simp [intOf]; omega
    have hkn : k = N := by omega
    subst hkn
    rw [List.take_of_length_le (by have := HN.out; omega)] at HR
    go_upto_region 15 with (fail)
    refine name_world (fun X => RedoRW w B3 B5 B8 B9 w.heap.size (.slice vo k vc) l (RedoM.redo l p) (RedoM.won l) X ∧ Blk X wr.heap.size 90 (Tab 12 fun _ => .bool false)) ⟨HR.out.alloc _, Blk.new _ _ _⟩ ?_
    rintro X2 ⟨hX2, h12⟩
    obtain ⟨B12, HB12⟩ : ∃ x, Box (wr.heap.size = x) := ⟨_, ⟨rfl⟩⟩
    rw [HB12.out] at h12 ⊢
    have HX2 := box hX2; have H12 := box h12
    clear hX2 h12
    go_wp2_with fail
    refine (backward_any ao k cap X2).mono ?_
    rintro e w5 ⟨rfl, rfl⟩
    go_wp2_with fail
    obtain ⟨zs, hzs⟩ := recs_back HI.out
    have hb3 : w.heap.size ≤ B3 := by have := HB3.out; omega
    have hn53 : B5 ≠ B3 := by have := HB3.out; have := HB5.out; omega
    have Hzs := box hzs
    have HIt : Box (l = [] ∨ ∃ b off, ao = some ⟨b, off, none⟩ ∧ b < w.heap.size ∧ RecsAt (X2.alloc (.cells #[.slice ao k cap] 22)) ao l) := ⟨by
      have hr := H.out.below (HX2.out.alloc (.cells #[.slice ao k cap] 22)).below (Nat.le_refl _)
      rcases H.out with h | ⟨b, off, h1, h2, _⟩
      · exact Or.inl h
      · exact Or.inr ⟨b, off, h1, h2, hr⟩⟩
    have hl12 := H12.out.lt
    rw [← wpIn_wide (n := 6)]
    refine range_boxed rfl (by omega) (gf := 59) (lb := #[.pointer (some ⟨X2.heap.size, 0, none⟩)]) rfl trivial (enters_fn Try.func59 (by kernel_rfl) rfl) (w0 := X2.alloc (.cells #[.slice ao k cap] 22))
      (backward_stops Fence.wide 5 trivial rfl (by omega) X2.heap.size w.heap.size cap ao l zs (by have := HN.out; omega) _ (by simp) (by have := HX2.out.below.size; simp; omega) (by rw [HN.out]; simp) HIt.out hzs)
      BackK.trans (BackK.putObj (by have := HX2.out.below.size; simp; omega) (by simp)) (Below.refl _ _) (fun _ => rfl)
      (RedoI w B3 B5 B8 B9 B12 w.heap.size X2.heap.size (.slice ao k cap) l p) (RedoI.ownFrom w B3 B5 B8 B9 B12 w.heap.size _ _ _ l p (by have := HX2.out.below.size; simp; omega)) ⟨_, by have h := HX2.out.alloc (.cells #[.slice ao k cap] 22); exact h, H12.out.alloc _, Blk.new X2 [.slice ao k cap] _⟩
      14 (fun x Bx W => Blk W Bx 25 (RecM.vals x.1.2) ∧ ∃ v, Blk W B8 22 [v] ∧ v.ownBlock ≠ some Bx) (fun x Bx W W' row ⟨k1, v, k2, k3⟩ hg hr => ⟨k1.ownFrom hg hr, v, k2.ownFrom hg hr, k3⟩) ?assign ?body ?done
    case assign =>
      intro lp pre x W K hI hK
      obtain ⟨⟨zi, ⟨zk, zt, zit, zo, zn⟩⟩, zp⟩ := x
      simp only [RecA.encs, List.zip_toArray, List.zip_cons_cons, List.zip_nil_right, List.foldl_toArray, List.foldl_cons, List.foldl_nil, List.setIfInBounds_toArray, List.set_cons_succ, List.set_cons_zero] at hK ⊢
      gi_wp2
      obtain ⟨v, h1, h2, h3⟩ := hI
      have hs := h1.below.size
      exact hK W.heap.size _ (by have := h3.lt; simp; omega) ((KeepsOthers.alloc _ _).from _) ⟨(Below.refl _ _).alloc hs _, Below.heap_alloc _ _ _ h3.lt⟩ ⟨v, h1.alloc _, h2.alloc _, h3.alloc _⟩ ⟨Blk.new W (RecM.vals ⟨zk, zt, zit, zo, zn⟩) _, v, h1.box.alloc _, fun e => by have := (h1.own.lt _ e).2; omega⟩
    case body =>
      intro lp pre x Bx W hI hBz hle hlen
      obtain ⟨hBx, vz, hB8z, hvz⟩ := hBz
      have HAs := box (RedoM.at_snoc l p pre x)
      have hal := RedoM.at_len l p pre
      obtain ⟨⟨zi, ⟨zk, zt, zit, zo, zn⟩⟩, zp⟩ := x
      simp only [RecA.encs, List.zip_toArray, List.zip_cons_cons, List.zip_nil_right, List.foldl_toArray, List.foldl_cons, List.foldl_nil, List.setIfInBounds_toArray, List.set_cons_succ, List.set_cons_zero]
      dsimp only at zp HAs
      obtain ⟨z0, z1, z2, z3⟩ := zp
      obtain ⟨t, ht⟩ := Int.eq_ofNat_of_zero_le z0
      obtain ⟨i, hi⟩ := Int.eq_ofNat_of_zero_le z2
      subst ht; subst hi
      have ht12 : t < 12 := by omega
      have hi20 : i < 20 := by omega
      have htt : (t : Int) < 12 := by omega
      have hii : (i : Int) < 20 := by omega
      obtain ⟨v, hR, h12, h0s⟩ := hI
      have hvB : v.ownBlock ≠ some Bx := by
        have h1 := hR.box
        unfold Blk at h1 hB8z
        rw [h1] at hB8z
        have e : v = vz := by
          injection hB8z with e
          simpa using e
        rw [e]; exact hvz
      clear hB8z hvz
      clear vz
      have H0s := box h0s
      have hHR := box hR; have H12' := box h12
      have y0 := hBx.cell (i := 0) rfl
      have y1 := hBx.cell (i := 1) rfl
      have y2 := hBx.cell (i := 2) rfl
      have y3 := hBx.cell (i := 3) rfl
      have y4 := hBx.cell (i := 4) rfl
      dsimp only at y0 y1 y2 y3 y4
      have o1 := hR.over.tabCell ht12
      have HBx := box hBx
      clear hR h12 hBx h0s
      cases hw : RedoM.won l (t : Int) with
      | true =>
        rw [hw] at o1
        have HE : Box (RedoM.at_ l p (pre ++ [⟨(zi, ⟨zk, (t : Int), (i : Int), zo, zn⟩), ⟨z0, z1, z2, z3⟩⟩]) = RedoM.at_ l p pre) := ⟨by rw [HAs.out]; unfold RedoM.undoStep; rw [if_pos hw]⟩
        clear hw
        gi_wp2
        exact ⟨(KeepsOthers.refl _).from _, BackK.refl _ _ _, ⟨v, by rw [HE.out]; exact ⟨hHR.out, H12'.out, H0s.out⟩⟩⟩
      | false =>
        rw [hw] at o1
        obtain ⟨u, HU⟩ : ∃ u, Box (RedoM.at_ l p pre = u) := ⟨_, ⟨rfl⟩⟩
        rw [HU.out] at hHR H12' HAs hal
        have HE : Box (RedoM.at_ l p (pre ++ [⟨(zi, ⟨zk, (t : Int), (i : Int), zo, zn⟩), ⟨z0, z1, z2, z3⟩⟩]) = ⟨u.out ++ [RedoM.back u ⟨zk, t, i, zo, zn⟩], RedoM.upI u.pg (i : Int) ⟨zo, (u.out.length : Int) + 1⟩, RedoM.upI u.lo (t : Int) true⟩) := ⟨by rw [HAs.out]; unfold RedoM.undoStep; rw [if_neg (by rw [hw]; simp)]⟩
        clear hw HAs
        have o2 := H12'.out.tabCell ht12
        have f2 := H12'.out.frozen t
        obtain ⟨g3, g4⟩ := pg_at hHR.out.pg hi20
        obtain ⟨pv, HPv⟩ : ∃ x, Box ((u.pg (i : Int)).value = x) := ⟨_, ⟨rfl⟩⟩
        rw [HPv.out] at g3
        have hmx : Try.prog.follows .mixedOrders = true := by kernel_rfl
        gi_wp2
        obtain ⟨Y, HY⟩ : ∃ Y, Box (W.setCell ⟨B12, t, none⟩ (.bool true) = Y) := ⟨_, ⟨rfl⟩⟩
        have hbs12 : B12 < X2.heap.size := hl12
        have hw12 : w.heap.size ≤ B12 := by have := HB12.out; have := HR.out.below.size; omega
        have n1 : B3 ≠ B12 := by have := HR.out.pg.lt; have := HB12.out; omega
        have n2 : B5 ≠ B12 := by have := HR.out.res.lt; have := HB12.out; omega
        have n3 : B8 ≠ B12 := by have := HR.out.box.lt; have := HB12.out; omega
        have n4 : B9 ≠ B12 := by have := HR.out.over.lt; have := HB12.out; omega
        have n5 : Bx ≠ B12 := by simp at hle; omega
        have HYR : Box (RedoRW w B3 B5 B8 B9 w.heap.size v u.out u.pg (RedoM.won l) Y) := ⟨by rw [← HY.out]; exact hHR.out.other H12'.out n1 n2 n3 n4 (by decide) hw12 _ _⟩
        have HY12 : Box (Blk Y B12 90 (Tab 12 fun i => .bool (RedoM.upI u.lo (t : Int) true (i : Int)))) := ⟨by
          rw [← HY.out]
          have h1 := H12'.out.tabSet t (.bool true)
          rw [Tab_congr (g := fun j => .bool (RedoM.upI u.lo (t : Int) true (j : Int))) (fun j hj => ?_)] at h1
          · exact h1
          · by_cases e : j = t
            · subst e; rw [upd_same, RedoM.upI_same]
            · rw [upd_other _ _ e, RedoM.upI_other _ _ (fun h => e (by omega))]⟩
        have HYx : Box (Blk Y Bx 25 (RecM.vals ⟨zk, t, i, zo, zn⟩)) := ⟨by rw [← HY.out]; exact HBx.out.other n5 _⟩
        have HY0 : Box (Blk Y X2.heap.size 22 [.slice ao k cap]) := ⟨by rw [← HY.out]; exact H0s.out.other (show X2.heap.size ≠ B12 by omega) _⟩
        have HYk : Box (KeepsOthers W Y ∧ BackK w.heap.size X2.heap.size W Y) := ⟨by
          rw [← HY.out]
          exact ⟨KeepsOthers.setCell _ _ _, ⟨(Below.refl _ _).setCell hw12 _, Below.heap_setCell _ _ _ _ (show X2.heap.size ≠ B12 by omega)⟩⟩⟩
        rw [HY.out]
        have hul : u.out.length ≤ 800 := by have := HN.out; omega
        clear y0 y1 y2 y3 y4 o1 o2 f2 g3 g4 hlen
        have y1 := HYx.out.cell (i := 1) rfl
        have y2 := HYx.out.cell (i := 2) rfl
        have y3 := HYx.out.cell (i := 3) rfl
        dsimp only at y1 y2 y3
        obtain ⟨g3, g4⟩ := pg_at HYR.out.pg hi20
        rw [HPv.out] at g3
        have HYa : Box (Blk (Y.drew.alloc (.cells #[.int .i64 0, .int .i64 0, .int .i64 0, .int .i64 0, .int .i64 0] 25)) Y.heap.size 25 [.int .i64 0, .int .i64 0, .int .i64 0, .int .i64 0, .int .i64 0]) := ⟨Blk.new' rfl _ _⟩
        obtain ⟨WA, HWA⟩ : ∃ x, Box (Y.drew.alloc (.cells #[.int .i64 0, .int .i64 0, .int .i64 0, .int .i64 0, .int .i64 0] 25) = x) := ⟨_, ⟨rfl⟩⟩
        obtain ⟨WS, HWS⟩ : ∃ x, Box ((Y.alloc (.cells #[.int .i64 1, .int .i64 (t : Int), .int .i64 (i : Int), .int .i64 pv, .int .i64 zo] 25)).drew = x) := ⟨_, ⟨rfl⟩⟩
        refine wpIn_region_dag hmx (fun j => ([.pointer (some ⟨Bx, 1, none⟩), .int .i64 (t : Int), .pointer (some ⟨Bx, 2, none⟩), .int .i64 (i : Int), .pointer (some ⟨Bx, 2, none⟩), .int .i64 (i : Int), .pointer (some ⟨B3, i * 2, none⟩), .pointer (some ⟨B3, i * 2, none⟩), .int .i64 pv, .pointer (some ⟨Bx, 3, none⟩), .int .i64 zo, .agg #[.int .i64 1, .int .i64 (t : Int), .int .i64 (i : Int), .int .i64 pv, .int .i64 zo], .pointer (some ⟨Y.heap.size, 0, none⟩), undef] : List Value).getD j undef)
          (fun L wx => (L.getD 12 false = false → wx = Y.drew) ∧ (L.getD 12 false = true → L.getD 13 false = false → wx = WA) ∧ (L.getD 13 false = true → wx = WS))
          (by kernel_rfl) ?_ ?_ ?_
        · exact ⟨fun _ => rfl, fun h => absurd h (by simp), fun h => absurd h (by simp)⟩
        · intro k hk o ho L ρ wx hat haft hL hR
          have hbl : Blk wx Bx 25 (RecM.vals ⟨zk, t, i, zo, zn⟩) ∧ Blk wx B3 28 (pgVals u.pg) := by
            cases h12 : L.getD 12 false with
            | false => rw [hR.1 h12]; exact ⟨HYx.out.drew, HYR.out.pg.drew⟩
            | true =>
              cases h13 : L.getD 13 false with
              | false => rw [hR.2.1 h12 h13, ← HWA.out]; exact ⟨HYx.out.drew.alloc _, HYR.out.pg.drew.alloc _⟩
              | true => rw [hR.2.2 h13, ← HWS.out]; exact ⟨(HYx.out.alloc _).drew, (HYR.out.pg.alloc _).drew⟩
          have c1 := hbl.1.cell (i := 1) rfl
          have c2 := hbl.1.cell (i := 2) rfl
          have c3 := hbl.1.cell (i := 3) rfl
          dsimp only at c1 c2 c3
          obtain ⟨c4, _⟩ := pg_at hbl.2 hi20
          rw [HPv.out] at c4
          clear hbl y1 y2 y3 g3 g4
          have r3 : ρ (.tmp 3) = .pointer (some ⟨B3, 0, none⟩) := hat.old 3 (by
            intro j o' hj
            match j with
            | 0 | 1 | 2 | 3 | 4 | 5 | 6 | 7 | 8 | 9 | 10 | 11 | 12 | 13 => injection hj with hj; subst hj; simp
            | j + 14 => cases hj)
          have r14 : ρ (.tmp 14) = .pointer (some ⟨Bx, 0, none⟩) := hat.old 14 (by
            intro j o' hj
            match j with
            | 0 | 1 | 2 | 3 | 4 | 5 | 6 | 7 | 8 | 9 | 10 | 11 | 12 | 13 => injection hj with hj; subst hj; simp
            | j + 14 => cases hj)
          have hco := hat.const
          have hkeep : ∀ k, k ≠ 12 → k ≠ 13 → ((L.setIfInBounds k true).getD 12 false = false → wx = Y.drew) ∧ ((L.setIfInBounds k true).getD 12 false = true → (L.setIfInBounds k true).getD 13 false = false → wx = WA) ∧ ((L.setIfInBounds k true).getD 13 false = true → wx = WS) := fun k a b => by
            simp only [getD_set_ne false a, getD_set_ne false b]; exact hR
          match k, hk with
          | 0, _ =>
            injection ho with ho
            subst ho
            refine ⟨rfl, wx, hkeep 0 (by decide) (by decide), .inl ?_⟩
            clear hat haft hR hL hkeep
            go_simp
          | 1, _ =>
            injection ho with ho
            subst ho
            have e67 : ρ (.tmp 67) = .pointer (some ⟨Bx, 1, none⟩) := hat.new 0 _ 67 (haft ⟨0, .data⟩ (by simp) rfl) rfl rfl
            refine ⟨rfl, wx, hkeep 1 (by decide) (by decide), .inl ?_⟩
            clear hat haft hR hL hkeep
            go_simp
          | 2, _ =>
            injection ho with ho
            subst ho
            refine ⟨rfl, wx, hkeep 2 (by decide) (by decide), .inl ?_⟩
            clear hat haft hR hL hkeep
            go_simp
          | 3, _ =>
            injection ho with ho
            subst ho
            have e69 : ρ (.tmp 69) = .pointer (some ⟨Bx, 2, none⟩) := hat.new 2 _ 69 (haft ⟨2, .data⟩ (by simp) rfl) rfl rfl
            refine ⟨rfl, wx, hkeep 3 (by decide) (by decide), .inl ?_⟩
            clear hat haft hR hL hkeep
            go_simp
          | 4, _ =>
            injection ho with ho
            subst ho
            refine ⟨rfl, wx, hkeep 4 (by decide) (by decide), .inl ?_⟩
            clear hat haft hR hL hkeep
            go_simp
          | 5, _ =>
            injection ho with ho
            subst ho
            have e71 : ρ (.tmp 71) = .pointer (some ⟨Bx, 2, none⟩) := hat.new 4 _ 71 (haft ⟨4, .data⟩ (by simp) rfl) rfl rfl
            refine ⟨rfl, wx, hkeep 5 (by decide) (by decide), .inl ?_⟩
            clear hat haft hR hL hkeep
            go_simp
          | 6, _ =>
            injection ho with ho
            subst ho
            have e72 : ρ (.tmp 72) = .int .i64 (i : Int) := hat.new 5 _ 72 (haft ⟨5, .data⟩ (by simp) rfl) rfl rfl
            refine ⟨rfl, wx, hkeep 6 (by decide) (by decide), .inl ?_⟩
            clear hat haft hR hL hkeep
            go_simp
          | 7, _ =>
            injection ho with ho
            subst ho
            have e73 : ρ (.tmp 73) = .pointer (some ⟨B3, i * 2, none⟩) := hat.new 6 _ 73 (haft ⟨6, .data⟩ (by simp) rfl) rfl rfl
            refine ⟨rfl, wx, hkeep 7 (by decide) (by decide), .inl ?_⟩
            clear hat haft hR hL hkeep
            go_simp
          | 8, _ =>
            injection ho with ho
            subst ho
            have e74 : ρ (.tmp 74) = .pointer (some ⟨B3, i * 2, none⟩) := hat.new 7 _ 74 (haft ⟨7, .data⟩ (by simp) rfl) rfl rfl
            refine ⟨rfl, wx, hkeep 8 (by decide) (by decide), .inl ?_⟩
            clear hat haft hR hL hkeep
            go_simp
          | 9, _ =>
            injection ho with ho
            subst ho
            refine ⟨rfl, wx, hkeep 9 (by decide) (by decide), .inl ?_⟩
            clear hat haft hR hL hkeep
            go_simp
          | 10, _ =>
            injection ho with ho
            subst ho
            have e76 : ρ (.tmp 76) = .pointer (some ⟨Bx, 3, none⟩) := hat.new 9 _ 76 (haft ⟨9, .data⟩ (by simp) rfl) rfl rfl
            refine ⟨rfl, wx, hkeep 10 (by decide) (by decide), .inl ?_⟩
            clear hat haft hR hL hkeep
            go_simp
          | 11, _ =>
            injection ho with ho
            subst ho
            have e68 : ρ (.tmp 68) = .int .i64 (t : Int) := hat.new 1 _ 68 (haft ⟨1, .data⟩ (by simp) rfl) rfl rfl
            have e70 : ρ (.tmp 70) = .int .i64 (i : Int) := hat.new 3 _ 70 (haft ⟨3, .data⟩ (by simp) rfl) rfl rfl
            have e75 : ρ (.tmp 75) = .int .i64 pv := hat.new 8 _ 75 (haft ⟨8, .data⟩ (by simp) rfl) rfl rfl
            have e77 : ρ (.tmp 77) = .int .i64 zo := hat.new 10 _ 77 (haft ⟨10, .data⟩ (by simp) rfl) rfl rfl
            refine ⟨rfl, wx, hkeep 11 (by decide) (by decide), .inl ?_⟩
            clear hat haft hR hL hkeep
            go_simp
          | 12, _ =>
            injection ho with ho
            subst ho
            have l12 := Dag.off hL
            have l13 : L.getD 13 false = false := by
              cases h : L.getD 13 false with
              | false => rfl
              | true => have := hat.closed 13 _ h rfl ⟨12, .data⟩ (by simp) rfl; rw [l12] at this; cases this
            refine ⟨rfl, WA, ⟨fun h => ?_, fun _ _ => rfl, fun h => ?_⟩, .inl ?_⟩
            · rw [Dag.on hL] at h; cases h
            · rw [getD_set_ne false (by decide), l13] at h; cases h
            · have e := hR.1 l12
              clear haft hL hat hR hkeep
              subst e
              rw [← HWA.out]
              go_simp
          | 13, _ =>
            injection ho with ho
            subst ho
            have l12 : L.getD 12 false = true := haft ⟨12, .data⟩ (by simp) rfl
            have l13 := Dag.off hL
            have e15 : ρ (.tmp 15) = .pointer (some ⟨Y.heap.size, 0, none⟩) := hat.new 12 _ 15 l12 rfl rfl
            have e78 : ρ (.tmp 78) = .agg #[.int .i64 1, .int .i64 (t : Int), .int .i64 (i : Int), .int .i64 pv, .int .i64 zo] := hat.new 11 _ 78 (haft ⟨11, .data⟩ (by simp) rfl) rfl rfl
            refine ⟨rfl, WS, ⟨fun h => ?_, fun _ h => ?_, fun _ => rfl⟩, .inr ⟨rfl, ?_⟩⟩
            · rw [getD_set_ne false (by decide), l12] at h; cases h
            · rw [Dag.on hL] at h; cases h
            · have e := hR.2.1 l12 l13
              clear haft hL hat hR hkeep
              rw [e, ← HWA.out, ← HWS.out]
              have d0 := HYa.out.cell (i := 0) rfl
              have d1 := HYa.out.cell (i := 1) rfl
              have d2 := HYa.out.cell (i := 2) rfl
              have d3 := HYa.out.cell (i := 3) rfl
              have d4 := HYa.out.cell (i := 4) rfl
              have m0 := HYa.out.frozen 0
              have m1 := HYa.out.frozen 1
              have m2 := HYa.out.frozen 2
              have m3 := HYa.out.frozen 3
              have m4 := HYa.out.frozen 4
              go_simp
          | k + 14, h => exact absurd h (by simp)
        · intro L wx hall hR
          rw [hR.2.2 (hall 13 (by simp))]
          simp only [Dag.all, List.size_toArray, List.length_cons, List.length_nil, Nat.reduceAdd]
          simp only [Act.put, List.getElem?_toArray, List.getElem?_cons_zero, List.getElem?_cons_succ, Option.bind_some, List.setIfInBounds_toArray, List.set_cons_zero, List.set_cons_succ, List.getD_cons_zero, List.getD_cons_succ]
          clear hR hall y1 y2 y3 g3 g4
          clear wx L
          obtain ⟨Bn, HBn⟩ : ∃ x, Box (Y.heap.size = x) := ⟨_, ⟨rfl⟩⟩
          have HSn : Box (Blk WS Bn 25 (RecM.vals (RedoM.back u ⟨zk, t, i, zo, zn⟩))) := ⟨by
            rw [← HWS.out, ← HBn.out]
            unfold RedoM.back RecM.vals
            dsimp only
            rw [HPv.out]
            exact (Blk.new' rfl [.int .i64 1, .int .i64 (t : Int), .int .i64 (i : Int), .int .i64 pv, .int .i64 zo] _).drew⟩
          have hys := HYR.out.below.size
          have HSR : Box (RedoRW w B3 B5 B8 B9 w.heap.size v u.out u.pg (RedoM.won l) WS) := ⟨by
            rw [← HWS.out]
            have h := HYR.out.alloc (.cells #[.int .i64 1, .int .i64 (t : Int), .int .i64 (i : Int), .int .i64 pv, .int .i64 zo] 25)
            exact ⟨h.pg.drew, h.res.drew, h.box.drew, h.over.drew, h.own, h.below.drew⟩⟩
          have HS12 : Box (Blk WS B12 90 (Tab 12 fun i => .bool (RedoM.upI u.lo (t : Int) true (i : Int)))) := ⟨by rw [← HWS.out]; exact (HY12.out.alloc _).drew⟩
          have HSx : Box (Blk WS Bx 25 (RecM.vals ⟨zk, t, i, zo, zn⟩)) := ⟨by rw [← HWS.out]; exact (HYx.out.alloc _).drew⟩
          have HS0 : Box (Blk WS X2.heap.size 22 [.slice ao k cap]) := ⟨by rw [← HWS.out]; exact (HY0.out.alloc _).drew⟩
          have HSk : Box (KeepsOthers W WS ∧ BackK w.heap.size X2.heap.size W WS) := ⟨by
            rw [← HWS.out]
            refine ⟨(HYk.out.1.trans (KeepsOthers.alloc _ _)).trans (KeepsOthers.drew _), HYk.out.2.trans ⟨?_, ?_⟩⟩
            · exact ((Below.refl _ _).alloc hys _).drew
            · exact Below.heap_alloc _ _ _ HY0.out.lt⟩
          rw [HBn.out]
          clear HYR HYx HY12 HY0 HYk HYa HWA HWS hys
          have y8 := HSR.out.box.cell (i := 0) rfl
          have f8 := HSR.out.box.frozen 0
          have q0 := HSn.out.cell (i := 0) rfl
          have q1 := HSn.out.cell (i := 1) rfl
          have q2 := HSn.out.cell (i := 2) rfl
          have q3 := HSn.out.cell (i := 3) rfl
          have q4 := HSn.out.cell (i := 4) rfl
          unfold RedoM.back at q0 q1 q2 q3 q4
          dsimp only at q0 q1 q2 q3 q4
          obtain ⟨i0, hi0, hz0, hz1, hz2⟩ := info_parts Try.infoRec
          rw [HPv.out] at q3
          have hss := HSR.out.below.size
          have hown2 := HSR.out.own.alloc (.cells #[.int .i64 1, .int .i64 (t : Int), .int .i64 (i : Int), .int .i64 pv, .int .i64 zo] 25)
          gi_wp2_with (gi_at_builtin; go_must (refine wpListIn_append_own _ rfl _ _ 22 rfl w.heap.size 25 i0 _ 5 40 Try.underlying22 hi0 hz0 hz1 hz2 rfl (by decide) _ _ _ rfl hown2 ⟨WS.heap.size, 0, none⟩ 1 1 [.int .i64 1, .int .i64 (t : Int), .int .i64 (i : Int), .int .i64 pv, .int .i64 zo] rfl rfl (cells_new WS [.int .i64 1, .int .i64 (t : Int), .int .i64 (i : Int), .int .i64 pv, .int .i64 zo] 25) (by simp [Value.oneCell']) (by unfold maxLen; omega) (by omega) (by simp; omega) ?_))
          have HAl : Box (RedoRW w B3 B5 B8 B9 w.heap.size v u.out u.pg (RedoM.won l) (WS.alloc (.cells #[.int .i64 1, .int .i64 (t : Int), .int .i64 (i : Int), .int .i64 pv, .int .i64 zo] 25))) := ⟨HSR.out.alloc _⟩
          intro v' w5 hown' hgrow _
          have hEo : recsVals u.out ++ [.int .i64 1, .int .i64 (t : Int), .int .i64 (i : Int), .int .i64 pv, .int .i64 zo] = recsVals (u.out ++ [RedoM.back u ⟨zk, t, i, zo, zn⟩]) := by
            rw [recsVals_append]
            unfold RedoM.back
            simp [recsVals, RecM.vals, HPv.out]
          rw [hEo] at hown'
          have hlo : (u.out ++ [RedoM.back u ⟨zk, t, i, zo, zn⟩]).length = u.out.length + 1 := by simp
          rw [← hlo] at hown'
          obtain ⟨ao', cap', rfl, _, _, _, _⟩ := RecsAt.own hown'
          have HZ : Box (RedoRW w B3 B5 B8 B9 w.heap.size (.slice ao' (u.out ++ [RedoM.back u ⟨zk, t, i, zo, zn⟩]).length cap') (u.out ++ [RedoM.back u ⟨zk, t, i, zo, zn⟩]) u.pg (RedoM.won l) (w5.setCell ⟨B8, 0, none⟩ (.slice ao' (u.out ++ [RedoM.back u ⟨zk, t, i, zo, zn⟩]).length cap'))) := ⟨HAl.out.appended hown' hgrow hb8⟩
          have hk8 := HAl.out.box.grown hgrow (HAl.out.box.ne_own HAl.out.own (by decide))
          have hkx := (HSx.out.alloc (.cells #[.int .i64 1, .int .i64 (t : Int), .int .i64 (i : Int), .int .i64 pv, .int .i64 zo] 25)).grown hgrow hvB
          have hk3 := HAl.out.pg.grown hgrow (HAl.out.pg.ne_own HAl.out.own (by decide))
          have hk12 := (HS12.out.alloc (.cells #[.int .i64 1, .int .i64 (t : Int), .int .i64 (i : Int), .int .i64 pv, .int .i64 zo] 25)).grown hgrow ((HS12.out.alloc _).ne_own hown2 (by decide))
          have hk0 := (HS0.out.alloc (.cells #[.int .i64 1, .int .i64 (t : Int), .int .i64 (i : Int), .int .i64 pv, .int .i64 zo] 25)).grown hgrow ((HS0.out.alloc _).ne_own hown2 (by decide))
          have x8 := hk8.cell (i := 0) rfl
          have x8f := hk8.frozen 0
          have x2 := hkx.cell (i := 2) rfl
          have x3 := hkx.cell (i := 3) rfl
          dsimp only at x2 x3
          obtain ⟨z3, z4⟩ := pg_at hk3 hi20
          have z3f := hk3.frozen (i * 2)
          have z4f := hk3.frozen (i * 2 + 1)
          have m1 : B8 ≠ B3 := hk8.ne hk3 (by decide)
          have m2 : B8 ≠ Bx := hk8.ne hkx (by decide)
          have m3 : B12 ≠ B3 := hk12.ne hk3 (by decide)
          have m4 : B12 ≠ B8 := hk12.ne hk8 (by decide)
          have m5 : X2.heap.size ≠ B3 := hk0.ne hk3 (by decide)
          have m6 : X2.heap.size ≠ B8 := by have := HX2.out.box.lt; omega
          have HK12 := box hk12; have HK0 := box hk0
          have HKo : Box (KeepsOthers W w5 ∧ BackK w.heap.size X2.heap.size W w5) := ⟨(HSk.out.1.trans (KeepsOthers.alloc _ _)).trans (KeepsOthers.of_grownBy hgrow (fun j o e ho => own_isCells hown2 j o e ho)),
            HSk.out.2.trans ⟨((Below.refl _ _).alloc hss _).grown hgrow (by simp; omega) (fun j e => (hown2.lt j e).1), (hgrow.block _ (HS0.out.alloc _).lt (Ne.symm ((HS0.out.alloc _).ne_own hown2 (by decide)))).trans (Below.heap_alloc _ _ _ HS0.out.lt)⟩⟩
          obtain ⟨uo, Huo⟩ : ∃ x, Box ((u.out ++ [RedoM.back u ⟨zk, t, i, zo, zn⟩]).length = x) := ⟨_, ⟨rfl⟩⟩
          rw [Huo.out] at HZ ⊢
          clear q0 q1 q2 q3 q4 y8 f8 hown2 hown' hgrow hk8 hkx hk3 hk12 hk0
          gi_wp2
          refine ⟨(((HKo.out.1.trans (KeepsOthers.setCell _ _ _)).trans (KeepsOthers.setCell _ _ _)).trans (KeepsOthers.setCell _ _ _)).from _,
            ((HKo.out.2.trans ⟨(Below.refl _ _).setCell hb8 _, Below.heap_setCell _ _ _ _ m6⟩).trans ⟨(Below.refl _ _).setCell hb3 _, Below.heap_setCell _ _ _ _ m5⟩).trans ⟨(Below.refl _ _).setCell hb3 _, Below.heap_setCell _ _ _ _ m5⟩, ⟨.slice ao' uo cap', ?_, ?_, ?_⟩⟩
          · rw [HE.out]
            have h := HZ.out.page hb3 hn53 i zo (uo : Int)
            have e : (u.out.length : Int) + 1 = (uo : Int) := by rw [← Huo.out]; simp
            rw [e]
            exact h
          · rw [HE.out]; exact ((HK12.out.other m4 _).other m3 _).other m3 _
          · exact ((HK0.out.other m6 _).other m5 _).other m5 _
    case done =>
      intro D xs W hD hS hI hdef
      have hat : RedoM.at_ l p xs = RedoM.undone l p := by
        rw [hS]
        unfold RedoM.at_ RedoM.undone
        have e : (zs.map (fun x => x.1.2)).reverse = l := by
          have h := congrArg (List.map Prod.snd) hzs
          rw [backL_snd, List.map_map] at h
          have h2 : zs.map (fun x => x.1.2) = l.reverse := h
          rw [h2, List.reverse_reverse]
        rw [e]
      obtain ⟨v, hR, h12, _⟩ := hI
      rw [hat] at hR h12
      have HR := box hR; have H12 := box h12; have HD := box hdef
      clear hR h12 hdef
      have hu8 : (RedoM.undone l p).out.length ≤ 800 := by
        rw [← hat]
        have h := RedoM.at_len l p xs
        have hx : xs.length = l.length := by
          rw [hS]
          have h := congrArg List.length hzs
          rw [List.length_map] at h
          rw [h]; simp [backL]
        have := HN.out; omega
      clear hat hS
      obtain ⟨u, HU⟩ : ∃ u, Box (RedoM.undone l p = u) := ⟨_, ⟨rfl⟩⟩
      rw [HU.out] at HR H12 hu8
      have hb12 := H12.out
      go_wp2_with (refine wpList_load_row rfl 90 (.tmp 12) rfl B12 (by rfl) 90 _ (0, 0) _ hb12 Try.underlying90 rfl (by kernel_rfl) ?_)
      have HIx := box (index_lost (fun i => u.lo (i : Int)))
      have HR0 : Box (RedoRW w B3 B5 B8 B9 w.heap.size v (RedoM.endsTo u.lo 0 u.out) u.pg (RedoM.won l) W) := ⟨by unfold RedoM.endsTo; simpa using HR.out⟩
      go_loopw [92] (fun i wr => ∃ k : Nat, ∃ v, k ≤ 12 ∧ i = .int .i64 (k : Int) ∧ Box (RedoRW w B3 B5 B8 B9 w.heap.size v (RedoM.endsTo u.lo k u.out) u.pg (RedoM.won l) wr ∧ wr.heap[D]? = some (.deferred (some [])))) (fun i _ => 12 - (intOf i).toNat)
      case atStart => exact ⟨0, v, Nat.zero_le _, rfl, ⟨HR0.out, HD.out⟩⟩
      case round =>
        obtain ⟨k2, v2, hk2, rfl, HRb⟩ := hrel
        by_cases hlt2 : k2 < 12
        case pos =>
          have hlk : (k2 : Int) < 12 := by omega
          have hix := HIx.out k2 hlt2
          have HEs := box (RedoM.endsTo_succ u.lo k2 u.out)
          cases hlo : u.lo (k2 : Int) with
          | false =>
            rw [hlo] at hix HEs
            have HRn : Box (RedoRW w B3 B5 B8 B9 w.heap.size v2 (RedoM.endsTo u.lo (k2 + 1) u.out) u.pg (RedoM.won l) wr ∧ wr.heap[D]? = some (.deferred (some []))) := ⟨by rw [HEs.out]; exact HRb.out⟩
            go_wp2_with fail
            go_roundw
            case rel => exact ⟨k2 + 1, v2, hlt2, by go_num, HRn⟩
            case measure => simp [intOf]; omega
          | true =>
            rw [hlo] at hix HEs
            have hel : (RedoM.endsTo u.lo k2 u.out).length ≤ u.out.length + k2 := by
              unfold RedoM.endsTo
              rw [List.length_append, List.length_map]
              have h := List.length_filter_le (fun (t : Nat) => u.lo (t : Int)) (List.range k2)
              rw [List.length_range] at h
              omega
            obtain ⟨q, Hq⟩ : ∃ q, Box (RedoM.endsTo u.lo k2 u.out = q) := ⟨_, ⟨rfl⟩⟩
            rw [Hq.out] at HRb hel HEs
            rw [if_pos rfl] at HEs
            have y8 := HRb.out.1.box.cell (i := 0) rfl
            have f8 := HRb.out.1.box.frozen 0
            obtain ⟨i0, hi0, hz0, hz1, hz2⟩ := info_parts Try.infoRec
            have hss := HRb.out.1.below.size
            have hown2 := HRb.out.1.own.alloc (.cells #[.int .i64 3, .int .i64 (k2 : Int), .int .i64 0, .int .i64 0, .int .i64 0] 25)
            go_wp2_with (at_builtin; go_must (refine wpList_append_own _ rfl _ _ 22 rfl w.heap.size 25 i0 _ 5 40 Try.underlying22 hi0 hz0 hz1 hz2 rfl (by decide) _ _ _ rfl hown2 ⟨wr.heap.size, 0, none⟩ 1 1 [.int .i64 3, .int .i64 (k2 : Int), .int .i64 0, .int .i64 0, .int .i64 0] rfl rfl (cells_new wr [.int .i64 3, .int .i64 (k2 : Int), .int .i64 0, .int .i64 0, .int .i64 0] 25) (by simp [Value.oneCell']) (by unfold maxLen; omega) (by omega) (by simp; omega) ?_))
            intro v' w5 hown' hgrow _
            have HAl : Box (RedoRW w B3 B5 B8 B9 w.heap.size v2 q u.pg (RedoM.won l) (wr.alloc (.cells #[.int .i64 3, .int .i64 (k2 : Int), .int .i64 0, .int .i64 0, .int .i64 0] 25))) := ⟨HRb.out.1.alloc _⟩
            have hEo : recsVals q ++ [.int .i64 3, .int .i64 (k2 : Int), .int .i64 0, .int .i64 0, .int .i64 0] = recsVals (q ++ [RedoM.endR k2]) := by
              rw [recsVals_append]
              simp [recsVals, RecM.vals, RedoM.endR]
            have hlo2 : (q ++ [RedoM.endR k2]).length = q.length + 1 := by simp
            rw [hEo, ← hlo2] at hown'
            obtain ⟨ao', cap', rfl, _, _, _, _⟩ := RecsAt.own hown'
            obtain ⟨v', Hv'⟩ : ∃ x, Box (Value.slice ao' (q ++ [RedoM.endR k2]).length cap' = x) := ⟨_, ⟨rfl⟩⟩
            obtain ⟨n', Hn'⟩ : ∃ x, Box ((q ++ [RedoM.endR k2]).length = x) := ⟨_, ⟨rfl⟩⟩
            have hk8 := HAl.out.box.grown hgrow (HAl.out.box.ne_own HAl.out.own (by decide))
            have x8 := hk8.cell (i := 0) rfl
            have x8f := hk8.frozen 0
            have hDne : v2.ownBlock ≠ some D := fun e => by
              have h := own_isCells HRb.out.1.own D _ e HRb.out.2
              cases h
            have hDlt : D < wr.heap.size := by
              have h := HRb.out.2
              exact (Array.getElem?_eq_some_iff.1 h).1
            have hD5 : w5.heap[D]? = some (.deferred (some [])) := (hgrow.block D (by simp; omega) (Ne.symm hDne)).trans ((Below.heap_alloc _ _ _ hDlt).trans HRb.out.2)
            have hD8 : D ≠ B8 := by
              intro e
              have h := hk8
              unfold Blk at h
              rw [e, h] at hD5
              cases hD5
            have HRn : Box (RedoRW w B3 B5 B8 B9 w.heap.size v' (RedoM.endsTo u.lo (k2 + 1) u.out) u.pg (RedoM.won l) (w5.setCell ⟨B8, 0, none⟩ v') ∧ (w5.setCell ⟨B8, 0, none⟩ v').heap[D]? = some (.deferred (some []))) := ⟨by
              rw [HEs.out, ← Hv'.out]
              exact ⟨HAl.out.appended hown' hgrow hb8, (Below.heap_setCell _ _ _ _ hD8).trans hD5⟩⟩
            rw [← Hv'.out, Hn'.out] at HRn
            rw [Hn'.out]
            clear y8 f8 hown2 hown' hgrow hk8 hD5 hDne hDlt hD8
            go_wp2_with fail
            go_roundw
            case rel => exact ⟨k2 + 1, _, hlt2, by go_num, HRn⟩
            case measure => simp [intOf]; omega
        have hkn : k2 = 12 := by omega
        subst hkn
        go_wp2_with fail
        obtain ⟨WS, HWS⟩ : ∃ x, Box (wr.drew.setRow B5 (pgVals u.pg).toArray = x) := ⟨_, ⟨rfl⟩⟩
        obtain ⟨pv, HPv⟩ : ∃ x, Box (Value.agg (pgVals u.pg).toArray = x) := ⟨_, ⟨rfl⟩⟩
        rw [← wpIn_wide (n := 6)]
        refine wpIn_region_dag (by kernel_rfl) (fun j => ([v2, pv, v2, undef, .int .i64 0] : List Value).getD j undef)
          (fun L wx => (L.getD 3 false = false → wx = wr.drew) ∧ (L.getD 3 false = true → wx = WS)) (by kernel_rfl) ?_ ?_ ?_
        · exact ⟨fun _ => rfl, fun h => absurd h (by simp)⟩
        · intro j hj o ho L ρ wx hat haft hL hR
          have hco := hat.const
          have hkeep : ∀ k, k ≠ 3 → ((L.setIfInBounds k true).getD 3 false = false → wx = wr.drew) ∧ ((L.setIfInBounds k true).getD 3 false = true → wx = WS) := fun k a => by
            simp only [getD_set_ne false a]; exact hR
          match j, hj with
          | 0, _ =>
            injection ho with ho
            subst ho
            have r8 : ρ (.tmp 8) = .pointer (some ⟨B8, 0, none⟩) := hat.old 8 (by
              intro j o' hj
              match j with
              | 0 | 1 | 2 | 3 | 4 => injection hj with hj; subst hj; simp
              | j + 5 => cases hj)
            have l3 : L.getD 3 false = false := by
              cases h : L.getD 3 false with
              | false => rfl
              | true => have := hat.closed 3 _ h rfl ⟨0, .phase⟩ (by simp) rfl; rw [Dag.off hL] at this; cases this
            have e := hR.1 l3
            refine ⟨rfl, wx, hkeep 0 (by decide), .inl ?_⟩
            have y8 := HRb.out.1.box.drew.cell (i := 0) rfl
            rw [← e] at y8
            clear e hat haft hR hL hkeep
            go_simp
          | 1, _ =>
            injection ho with ho
            subst ho
            have r3 : ρ (.tmp 3) = .pointer (some ⟨B3, 0, none⟩) := hat.old 3 (by
              intro j o' hj
              match j with
              | 0 | 1 | 2 | 3 | 4 => injection hj with hj; subst hj; simp
              | j + 5 => cases hj)
            have l3 : L.getD 3 false = false := by
              cases h : L.getD 3 false with
              | false => rfl
              | true => have := hat.closed 3 _ h rfl ⟨1, .phase⟩ (by simp) rfl; rw [Dag.off hL] at this; cases this
            have e := hR.1 l3
            refine ⟨rfl, wx, hkeep 1 (by decide), .inl ?_⟩
            have y3 := HRb.out.1.pg.drew
            rw [← e] at y3
            clear hat haft hR hL hkeep
            rw [show ([v2, pv, v2, undef, .int .i64 0] : List Value).getD 1 undef = pv from rfl, ← HPv.out]
            exact run_op_load_row 28 (.tmp 3) rfl B3 r3 28 _ _ _ y3 Try.underlying28 rfl (pg_size u.pg)
          | 2, _ =>
            injection ho with ho
            subst ho
            have e103 : ρ (.tmp 103) = v2 := hat.new 0 _ 103 (haft ⟨0, .data⟩ (by simp) rfl) rfl rfl
            refine ⟨rfl, wx, hkeep 2 (by decide), .inl ?_⟩
            clear hat haft hR hL hkeep
            go_simp
          | 3, _ =>
            injection ho with ho
            subst ho
            have r5 : ρ (.tmp 5) = .pointer (some ⟨B5, 0, none⟩) := hat.old 5 (by
              intro j o' hj
              match j with
              | 0 | 1 | 2 | 3 | 4 => injection hj with hj; subst hj; simp
              | j + 5 => cases hj)
            have e104 : ρ (.tmp 104) = pv := hat.new 1 _ 104 (haft ⟨1, .data⟩ (by simp) rfl) rfl rfl
            have l3 := Dag.off hL
            have e := hR.1 l3
            refine ⟨rfl, WS, ⟨fun h => ?_, fun _ => rfl⟩, .inr ⟨rfl, ?_⟩⟩
            · rw [Dag.on hL] at h; cases h
            · have y5 := HRb.out.1.res.drew
              rw [← e] at y5
              clear hat haft hR hL hkeep
              rw [← HPv.out] at e104
              rw [← HWS.out, ← e]
              exact run_op_store_row 28 (.tmp 5) (.tmp 104) rfl B5 _ r5 e104 28 _ y5 (pg_size u.pg) (by simp [pgVals_len]) (pg_one u.pg)
          | 4, _ =>
            injection ho with ho
            subst ho
            refine ⟨rfl, wx, hkeep 4 (by decide), .inl ?_⟩
            clear hat haft hR hL hkeep
            go_simp
          | j + 5, h => exact absurd h (by simp)
        · intro L wx hall hR
          rw [hR.2 (hall 3 (by simp))]
          simp only [Dag.all, List.size_toArray, List.length_cons, List.length_nil, Nat.reduceAdd, Act.put, List.getElem?_toArray, List.getElem?_cons_zero, List.getElem?_cons_succ, Option.bind_some, List.setIfInBounds_toArray, List.set_cons_zero, List.set_cons_succ, List.getD_cons_zero, List.getD_cons_succ]
          clear hR hall
          clear wx L
          go_wp2_with fail
          have hDne : D ≠ B5 := by
            intro e
            have h := HRb.out.2
            have h2 := HRb.out.1.res
            unfold Blk at h2
            rw [e, h2] at h
            cases h
          have hDd : WS.heap[D]? = some (.deferred (some [])) := by
            rw [← HWS.out]
            exact (setRow_other wr.drew B5 D _ hDne).trans HRb.out.2
          refine ⟨by simp, .inl ⟨_, _, rfl, run_takeDeferred hDd, ?_⟩⟩
          have hDlt : w.heap.size ≤ D := by
            have h1 := HX2.out.below.size
            simp at hD
            omega
          have hB5D : B5 ≠ D := Ne.symm hDne
          have hr5 : (WS.putObj D (.deferred none)).heap[B5]? = some (.cells (pgVals u.pg).toArray 28 (0, 0)) := by
            refine (World.putObj_heap_other hB5D).trans ?_
            rw [← HWS.out]
            exact HRb.out.1.res.drew.row (pgVals u.pg)
          have hlv := run_loadVar_row (P := Try.prog) (WS.putObj D (.deferred none)) B5 28 28 _ (0, 0) _ hr5 Try.underlying28 rfl (pg_size u.pg)
          have ho5 := HRb.out.1.res.ne_own HRb.out.1.own (by decide)
          have hoD : v2.ownBlock ≠ some D := fun e => by
            have h := own_isCells HRb.out.1.own D _ e HRb.out.2
            cases h
          refine ⟨.tuple #[v2, .agg (pgVals u.pg).toArray, .int .i64 0], ?_, ⟨v2, ?_, ?_⟩, ?_⟩
          · simp [results, Try.results9, asAddr, hlv]
          · unfold RedoM.recPg; rw [HU.out]
          · unfold RedoM.recOut
            rw [HU.out]
            refine own_of_heap HRb.out.1.own (fun g hg => ?_)
            refine (World.putObj_heap_other (fun e => hoD (by rw [hg, e]))).trans ?_
            rw [← HWS.out]
            exact setRow_other wr.drew B5 g _ (fun e => ho5 (by rw [hg, e]))
          · refine Below.trans ?_ (belowK_b (w := w) (Nat.le_refl _) WS D _ (.deferred none) hDlt hDd rfl rfl)
            rw [← HWS.out]
            exact belowSetRow HRb.out.1.below.drew (by have := HB5.out; omega) _
end Go.Proofs.Ytfmgncfikaefhaa
