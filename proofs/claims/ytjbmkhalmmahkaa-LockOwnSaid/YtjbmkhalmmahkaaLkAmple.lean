/- ample, stays over api.Lock: what they do (printed by mkample.py). -/
import Derived.Test.YtjbmkhalmmahkaaLkA
import Derived.Test.YtjbmkhalmmahkaaAmple
namespace Go.Proofs.Ytjbmkhalmmahkaa
open Go.RowKit Go.Lib

/-- A row of slots ls in a block of the call's own, with two slots f behind. -/
def LkAmple (w : World) (base g : Nat) (ls : List (LkM)) (f : LkM) : Prop := w.ownsRow base 28 2 (.slice (some ⟨g, 0, none⟩) (ls.length + 2) (ls.length + 3)) (ls.length + 2) (lkVals (ls ++ [f, f]))
theorem LkAmple.after {w w' : World} {base g : Nat} {ls : List (LkM)} {f : LkM} (h : LkAmple w base g ls f) (hb : Below w.heap.size w w') : LkAmple w' base g ls f := ownsRow_below h hb
theorem LkAmple.at2 {w : World} {base g : Nat} {ls : List (LkM)} {f : LkM} (h : LkAmple w base g ls f) : LksAt w (some ⟨g, 0, none⟩) (ls ++ [f, f]) := LkA.own h
theorem LkAmple.at_ {w : World} {base g : Nat} {ls : List (LkM)} {f : LkM} (h : LkAmple w base g ls f) : LksAt w (some ⟨g, 0, none⟩) ls := LkA.left h.at2
theorem LkAmple.fill {w : World} {base g : Nat} {ls : List (LkM)} {f : LkM} (h : LkAmple w base g ls f) :
    w.cell? ⟨g, ls.length * 2, none⟩ = some (.int .i64 f.tx) ∧ w.cell? ⟨g, ls.length * 2 + 1, none⟩ = some (.int .i64 f.mode) ∧ w.cell? ⟨g, (ls.length + 1) * 2, none⟩ = some (.int .i64 f.tx) ∧ w.cell? ⟨g, (ls.length + 1) * 2 + 1, none⟩ = some (.int .i64 f.mode) := by
  have a := LkA.elem h.at2 rfl ls.length (by simp)
  have b := LkA.elem h.at2 rfl (ls.length + 1) (by simp)
  simp only [Nat.zero_add] at a b
  simp at a b
  obtain ⟨a0, a1⟩ := a
  obtain ⟨b0, b1⟩ := b
  exact ⟨a0, a1, b0, b1⟩

theorem LkAmple.run_make (n : Nat) (hn : n ≤ 8796093022100) (wx : World) :
    (Instr.makeSlice 30 (.int .i64 0) (.int .i64 ((n : Int) + 3))).run Try.prog wx = .ok (.slice (some ⟨wx.heap.size, 0, none⟩) 0 (n + 3)) (wx.alloc (.cells (madeCells #[.int .i64 0, .int .i64 0] ((n + 3) * 2)) 28)) := by
  obtain ⟨i, hi, hzz⟩ := Option.map_eq_some_iff.1 Try.infoLk
  simp only [Prod.mk.injEq] at hzz
  obtain ⟨hz, hs, hb⟩ := hzz
  have hr := Go.run_make (P := Try.prog) wx 30 28 i _ Try.underlying30 hi hz .i64 .i64 0 (n + 3) (Int.le_refl _) (by omega) (by rw [hb]; omega) (by omega)
  have e : ((n : Int) + 3).toNat = n + 3 := by omega
  rw [e, hs] at hr
  exact hr

/-- What ample leaves. -/
def LkAmplePost (w : World) (ls : List (LkM)) (f : LkM) (v : Value) (wx : World) : Prop :=
  ∃ g, v = .slice (some ⟨g, 0, none⟩) (ls.length + 2) (ls.length + 3) ∧ w.heap.size ≤ g ∧ g < wx.heap.size ∧ LkAmple wx w.heap.size g ls f ∧ Below w.heap.size w wx

set_option maxRecDepth 20000 in
set_option maxHeartbeats 4000000 in
theorem ampleLk_any (ls : List (LkM)) (f : LkM) (ao : Option Addr) (cap : Nat) (w : World) (h : LksAt w ao ls) (hnil : ao = none → cap = 0) (hn : ls.length ≤ 8796093022100) :
    Calls Try.prog 8 #[.slice ao ls.length cap, .agg #[.int .i64 f.tx, .int .i64 f.mode]] w fun e w' => (∃ g, e = .returned (.slice (some ⟨g, 0, none⟩) ls.length (ls.length + 3)) ∧ w.heap.size ≤ g ∧ g < w'.heap.size ∧ LkAmple w' w.heap.size g ls f) ∧ Below w.heap.size w w' := by
  obtain ⟨i0, hi0, hz0, hz1, hz2⟩ := info_parts Try.infoLk
  have Hnone : Box (ao = none → ls.length = 0 ∧ cap = 0) := ⟨fun e => by
    refine ⟨?_, hnil e⟩
    rcases h with h | ⟨b, off, h1, _⟩
    · rw [h]; rfl
    · rw [e] at h1; cases h1⟩
  have Hcs : Box (∀ wx, Below w.heap.size w wx → ∀ ad, ao = some ad → ∀ j u, (lkVals ls)[j]? = some u → wx.cell? (ad.add j) = some u) := ⟨fun wx hx => LkA.cellsAt (h.below hx (Nat.le_refl _))⟩
  clear h hnil
  have w1 : IntKind.i64.wrap ((ls.length : Int) + 3) = (ls.length : Int) + 3 := IntWalk.i64_in _ (by omega)
  have hmk := LkAmple.run_make ls.length hn
  have HM : Box (∀ wx : World, w.heap.size ≤ wx.heap.size → (wx.alloc (.cells (madeCells #[.int .i64 0, .int .i64 0] ((ls.length + 3) * 2)) 28)).ownsRow w.heap.size 28 2 (.slice (some ⟨wx.heap.size, 0, none⟩) 0 (ls.length + 3)) 0 []) := ⟨fun wx hx => World.ownsRow_made wx _ _ hx (by unfold maxLen; omega) (by simp [madeCells])⟩
  go_enter Try.func8, Try.ntmps8
  go_upto_region 1 with (fail)
  refine name_world (fun W => Below w.heap.size w W ∧ w.heap.size < W.heap.size ∧ Blk W w.heap.size 28 [.int .i64 f.tx, .int .i64 f.mode]) ⟨(Below.refl _ _).alloc (Nat.le_refl _) _, by simp, Blk.new _ _ _⟩ ?_
  rintro W ⟨hbW, hsW, hB3⟩
  have HBW := box hbW; have HB3 := box hB3
  obtain ⟨B3, HBe⟩ : ∃ x, Box (w.heap.size = x) := ⟨_, ⟨rfl⟩⟩
  rw [HBe.out] at hB3 hsW HM Hcs HB3 ⊢
  have y0 := hB3.cell (i := 0) rfl
  have y1 := hB3.cell (i := 1) rfl
  clear hbW hB3
  go_cut [5] (fun t5 wx => LkAmplePost w ls f t5 wx)
  case first =>
    have Hcs : Box (∀ wx, Below W.heap.size W wx → ∀ ad, ao = some ad → ∀ j u, (lkVals ls)[j]? = some u → wx.cell? (ad.add j) = some u) := ⟨fun wx hx => Hcs.out wx (by rw [← HBe.out]; exact below_tr HBW.out hx)⟩
    have HM1 : Box (∀ (wx : World) (g : Nat), B3 ≤ wx.heap.size → wx.heap.size = g → (wx.alloc (.cells (madeCells #[.int .i64 0, .int .i64 0] ((ls.length + 3) * 2)) 28)).ownsRow B3 28 2 (.slice (some ⟨g, 0, none⟩) 0 (ls.length + 3)) 0 []) := ⟨fun wx g h e => by rw [← e]; exact HM.out wx h⟩
    have Hend : Box (∀ g w3, B3 ≤ g → w3.ownsRow B3 28 2 (.slice (some ⟨g, 0, none⟩) (ls.length + 2) (ls.length + 3)) (ls.length + 2) (lkVals ls ++ [.int .i64 f.tx, .int .i64 f.mode, .int .i64 f.tx, .int .i64 f.mode]) → Below W.heap.size W w3 → LkAmplePost w ls f (.slice (some ⟨g, 0, none⟩) (ls.length + 2) (ls.length + 3)) w3) := ⟨fun g w3 hg ho hb => by
      refine ⟨g, rfl, by rw [HBe.out]; exact hg, (ho.lt g rfl).2, ?_, below_tr HBW.out hb⟩
      unfold LkAmple
      rw [HBe.out]
      have e : lkVals (ls ++ [f, f]) = lkVals ls ++ [.int .i64 f.tx, .int .i64 f.mode, .int .i64 f.tx, .int .i64 f.mode] := by simp [lkVals]
      rw [e]; exact ho⟩
    go_region_law (first
      | (refine step_fits_any rfl (.tmp 9) (.tmp 10) 30 rfl B3 28 i0 2 Try.underlying30 hi0 hz1 (W.heap.size) 0 (ls.length + 3) [] (by first | (simp [Act.eval]; done) | exact hNOPE) (by first | exact HM.out _ (Nat.le_trans (Nat.le_of_lt hsW) (Below.size (w := W) (B := W.heap.size) (by (repeat (first | exact HW2.out | exact Below.refl _ _ | refine Below.drew ?_ | refine Below.alloc ?_ (by first | omega | (simp; omega) | simp) _))))) | exact (HM.out _ (Nat.le_trans (Nat.le_of_lt hsW) (Below.size (w := W) (B := W.heap.size) (by (repeat (first | exact HW2.out | exact Below.refl _ _ | refine Below.drew ?_ | refine Below.alloc ?_ (by first | omega | (simp; omega) | simp) _)))))).alloc _ | exact HM1.out _ _ (Nat.le_trans (Nat.le_of_lt hsW) (Below.size (w := W) (B := W.heap.size) (by (repeat (first | exact HW2.out | exact Below.refl _ _ | refine Below.drew ?_ | refine Below.alloc ?_ (by first | omega | (simp; omega) | simp) _))))) (by first | rfl | simp)) ao ls.length cap (lkVals ls) (by first | (simp [Act.eval]; done) | exact hNOPE) (lkVals_len ls) Hnone.out (Hcs.out _ (by (repeat (first | exact HW2.out | exact Below.refl _ _ | refine Below.drew ?_ | refine Below.alloc ?_ (by first | omega | (simp; omega) | simp) _)))) (lkVals_one ls) (by omega) ?_; intro w2 hown2 hgrow2; have HW2 : Box (Below W.heap.size W w2) := ⟨Below.grown (by (repeat (first | exact HW2.out | exact Below.refl _ _ | refine Below.drew ?_ | refine Below.alloc ?_ (by first | omega | (simp; omega) | simp) _))) hgrow2 (Below.size (w := W) (B := W.heap.size) (by (repeat (first | exact HW2.out | exact Below.refl _ _ | refine Below.drew ?_ | refine Below.alloc ?_ (by first | omega | (simp; omega) | simp) _)))) (fun j hj => by injection hj with hj; omega)⟩; have hB2 := HB3.out.after HW2.out; have c0 := hB2.cell (i := 0) rfl; have c1 := hB2.cell (i := 1) rfl; have hs2 := HW2.out.size; (try (have HF2 : Box (Blk w2 (W.heap.size + 1) 28 [.int .i64 f.tx, .int .i64 f.mode, .int .i64 f.tx, .int .i64 f.mode]) := ⟨Blk.grown (by first | exact (Blk.new' (by first | rfl | simp | (simp; rfl)) _ _) | exact (Blk.new' (by first | rfl | simp | (simp; rfl)) _ _).drew) hgrow2 (by simp)⟩)); simp only [Nat.zero_add, List.nil_append] at hown2 ⊢; have HO2 := box hown2; clear hown2 hgrow2 hB2)
      | (refine step_fits_any rfl (.tmp 9) (.tmp 10) 30 rfl B3 28 i0 2 Try.underlying30 hi0 hz1 (W.heap.size + 1) 0 (ls.length + 3) [] (by first | (simp [Act.eval]; done) | exact hNOPE) (by first | exact HM.out _ (Nat.le_trans (Nat.le_of_lt hsW) (Below.size (w := W) (B := W.heap.size) (by (repeat (first | exact HW2.out | exact Below.refl _ _ | refine Below.drew ?_ | refine Below.alloc ?_ (by first | omega | (simp; omega) | simp) _))))) | exact (HM.out _ (Nat.le_trans (Nat.le_of_lt hsW) (Below.size (w := W) (B := W.heap.size) (by (repeat (first | exact HW2.out | exact Below.refl _ _ | refine Below.drew ?_ | refine Below.alloc ?_ (by first | omega | (simp; omega) | simp) _)))))).alloc _ | exact HM1.out _ _ (Nat.le_trans (Nat.le_of_lt hsW) (Below.size (w := W) (B := W.heap.size) (by (repeat (first | exact HW2.out | exact Below.refl _ _ | refine Below.drew ?_ | refine Below.alloc ?_ (by first | omega | (simp; omega) | simp) _))))) (by first | rfl | simp)) ao ls.length cap (lkVals ls) (by first | (simp [Act.eval]; done) | exact hNOPE) (lkVals_len ls) Hnone.out (Hcs.out _ (by (repeat (first | exact HW2.out | exact Below.refl _ _ | refine Below.drew ?_ | refine Below.alloc ?_ (by first | omega | (simp; omega) | simp) _)))) (lkVals_one ls) (by omega) ?_; intro w2 hown2 hgrow2; have HW2 : Box (Below W.heap.size W w2) := ⟨Below.grown (by (repeat (first | exact HW2.out | exact Below.refl _ _ | refine Below.drew ?_ | refine Below.alloc ?_ (by first | omega | (simp; omega) | simp) _))) hgrow2 (Below.size (w := W) (B := W.heap.size) (by (repeat (first | exact HW2.out | exact Below.refl _ _ | refine Below.drew ?_ | refine Below.alloc ?_ (by first | omega | (simp; omega) | simp) _)))) (fun j hj => by injection hj with hj; omega)⟩; have hB2 := HB3.out.after HW2.out; have c0 := hB2.cell (i := 0) rfl; have c1 := hB2.cell (i := 1) rfl; have hs2 := HW2.out.size; (try (have HF2 : Box (Blk w2 W.heap.size 28 [.int .i64 f.tx, .int .i64 f.mode, .int .i64 f.tx, .int .i64 f.mode]) := ⟨Blk.grown (by first | exact (Blk.new' (by first | rfl | simp | (simp; rfl)) _ _).alloc _ | exact ((Blk.new' (by first | rfl | simp | (simp; rfl)) _ _).alloc _).drew) hgrow2 (by simp)⟩)); simp only [Nat.zero_add, List.nil_append] at hown2 ⊢; have HO2 := box hown2; clear hown2 hgrow2 hB2)
      | (refine step_fits_any rfl (.tmp 11) (.tmp 14) 30 rfl B3 28 i0 2 Try.underlying30 hi0 hz1 (W.heap.size) ls.length (ls.length + 3) (lkVals ls) (by first | (simp [Act.eval]; done) | exact hNOPE) (by first | exact HO2.out | exact HO2.out.alloc _) (some ⟨W.heap.size + 1, 0, none⟩) 2 2 [.int .i64 f.tx, .int .i64 f.mode, .int .i64 f.tx, .int .i64 f.mode] (by first | (simp [Act.eval]; done) | exact hNOPE) rfl (by simp) (Blk.cells_of (by first | exact HF2.out | exact Blk.new _ _ _)) (by simp [Value.oneCell']) (by omega) ?_; intro w3 hown3 hgrow3; have HW3 : Box (Below W.heap.size W w3) := ⟨Below.grown (by (repeat (first | exact HW2.out | exact Below.refl _ _ | refine Below.drew ?_ | refine Below.alloc ?_ (by first | omega | (simp; omega) | simp) _))) hgrow3 (Below.size (w := W) (B := W.heap.size) (by (repeat (first | exact HW2.out | exact Below.refl _ _ | refine Below.drew ?_ | refine Below.alloc ?_ (by first | omega | (simp; omega) | simp) _)))) (fun j hj => by injection hj with hj; omega)⟩; have HR : Box (LkAmplePost w ls f (.slice (some ⟨W.heap.size, 0, none⟩) (ls.length + 2) (ls.length + 3)) w3) := ⟨Hend.out _ _ (by omega) hown3 HW3.out⟩; clear hown3 hgrow3)
      | (refine step_fits_any rfl (.tmp 11) (.tmp 14) 30 rfl B3 28 i0 2 Try.underlying30 hi0 hz1 (W.heap.size) ls.length (ls.length + 3) (lkVals ls) (by first | (simp [Act.eval]; done) | exact hNOPE) (by first | exact HO2.out | exact HO2.out.alloc _) (some ⟨w2.heap.size, 0, none⟩) 2 2 [.int .i64 f.tx, .int .i64 f.mode, .int .i64 f.tx, .int .i64 f.mode] (by first | (simp [Act.eval]; done) | exact hNOPE) rfl (by simp) (Blk.cells_of (by first | exact HF2.out | exact Blk.new _ _ _)) (by simp [Value.oneCell']) (by omega) ?_; intro w3 hown3 hgrow3; have HW3 : Box (Below W.heap.size W w3) := ⟨Below.grown (by (repeat (first | exact HW2.out | exact Below.refl _ _ | refine Below.drew ?_ | refine Below.alloc ?_ (by first | omega | (simp; omega) | simp) _))) hgrow3 (Below.size (w := W) (B := W.heap.size) (by (repeat (first | exact HW2.out | exact Below.refl _ _ | refine Below.drew ?_ | refine Below.alloc ?_ (by first | omega | (simp; omega) | simp) _)))) (fun j hj => by injection hj with hj; omega)⟩; have HR : Box (LkAmplePost w ls f (.slice (some ⟨W.heap.size, 0, none⟩) (ls.length + 2) (ls.length + 3)) w3) := ⟨Hend.out _ _ (by omega) hown3 HW3.out⟩; clear hown3 hgrow3)
      | (refine step_fits_any rfl (.tmp 11) (.tmp 14) 30 rfl B3 28 i0 2 Try.underlying30 hi0 hz1 (W.heap.size + 1) ls.length (ls.length + 3) (lkVals ls) (by first | (simp [Act.eval]; done) | exact hNOPE) (by first | exact HO2.out | exact HO2.out.alloc _) (some ⟨W.heap.size, 0, none⟩) 2 2 [.int .i64 f.tx, .int .i64 f.mode, .int .i64 f.tx, .int .i64 f.mode] (by first | (simp [Act.eval]; done) | exact hNOPE) rfl (by simp) (Blk.cells_of (by first | exact HF2.out | exact Blk.new _ _ _)) (by simp [Value.oneCell']) (by omega) ?_; intro w3 hown3 hgrow3; have HW3 : Box (Below W.heap.size W w3) := ⟨Below.grown (by (repeat (first | exact HW2.out | exact Below.refl _ _ | refine Below.drew ?_ | refine Below.alloc ?_ (by first | omega | (simp; omega) | simp) _))) hgrow3 (Below.size (w := W) (B := W.heap.size) (by (repeat (first | exact HW2.out | exact Below.refl _ _ | refine Below.drew ?_ | refine Below.alloc ?_ (by first | omega | (simp; omega) | simp) _)))) (fun j hj => by injection hj with hj; omega)⟩; have HR : Box (LkAmplePost w ls f (.slice (some ⟨W.heap.size + 1, 0, none⟩) (ls.length + 2) (ls.length + 3)) w3) := ⟨Hend.out _ _ (by omega) hown3 HW3.out⟩; clear hown3 hgrow3)
      | fail)
    all_goals
      go_step
      go_step
      go_meet
      exact HR.out
  case rest =>
  obtain ⟨g, rfl, hg1, hg2, hA, hbw⟩ := hcut
  have HA := box hA; have HB := box hbw
  clear hA hbw
  have hc1 : (ls.length : Int) ≤ (ls.length : Int) + 3 := by omega
  have hc2 : (ls.length : Int) ≤ (ls.length : Int) + 2 := by omega
  go_wp2_with fail
  go_ret
  exact ⟨⟨_, rfl, hg1, hg2, HA.out⟩, HB.out⟩
set_option maxRecDepth 20000 in
set_option maxHeartbeats 4000000 in
theorem staysLk_any (ls : List (LkM)) (f : LkM) (ao : Option Addr) (cap g base : Nat) (w : World) (h : LksAt w ao ls) (ha : LkAmple w base g ls f) (hn : ls.length ≤ 8796093022100) :
    Calls Try.prog 11 #[.slice (some ⟨g, 0, none⟩) ls.length (ls.length + 3), .slice ao ls.length cap, .agg #[.int .i64 f.tx, .int .i64 f.mode]] w fun e w' => e = .returned (.bool true) ∧ Below w.heap.size w w' := by
  have HE : Box (∀ wx, Below w.heap.size w wx → Calls Try.prog 36 #[.slice (some ⟨g, 0, none⟩) ls.length (ls.length + 3), .slice ao ls.length cap] wx fun e w' => e = .returned (.bool true) ∧ ∃ n, w' = wx.drewN n) := ⟨fun wx hx => LkA.equal ls (some ⟨g, 0, none⟩) ao (ls.length + 3) cap wx (ha.after hx).at_ (h.below hx (Nat.le_refl _)) (by omega)⟩
  obtain ⟨c0, c1, c2, c3⟩ := ha.fill
  have hg : g < w.heap.size := (World.ownsRow.lt ha g rfl).2
  clear h ha
  have w1 : IntKind.i64.wrap ((ls.length : Int) + 2) = (ls.length : Int) + 2 := IntWalk.i64_in _ (by omega)
  have w2 : IntKind.i64.wrap ((ls.length : Int) + 1) = (ls.length : Int) + 1 := IntWalk.i64_in _ (by omega)
  have hc1 : (ls.length : Int) + 2 ≤ (ls.length : Int) + 3 := by omega
  have hc2 : (0 : Int) ≤ (ls.length : Int) + 2 := by omega
  have q0 : (f.tx == f.tx) = true := by simp
  have q1 : (f.mode == f.mode) = true := by simp
  go_enter Try.func11, Try.ntmps11
  go_upto_region 2 with (fail)
  refine name_world (fun W => Below w.heap.size w W ∧ w.heap.size < W.heap.size ∧ Blk W w.heap.size 28 [.int .i64 f.tx, .int .i64 f.mode]) ⟨(Below.refl _ _).alloc (Nat.le_refl _) _, by simp, Blk.new _ _ _⟩ ?_
  rintro W ⟨hbW, hsW, hB3⟩
  have HBW := box hbW; have HB3 := box hB3
  replace c0 := (hbW.cell (p := ⟨g, ls.length * 2, none⟩) hg).trans c0
  replace c1 := (hbW.cell (p := ⟨g, ls.length * 2 + 1, none⟩) hg).trans c1
  replace c2 := (hbW.cell (p := ⟨g, (ls.length + 1) * 2, none⟩) hg).trans c2
  replace c3 := (hbW.cell (p := ⟨g, (ls.length + 1) * 2 + 1, none⟩) hg).trans c3
  obtain ⟨B3, HBe⟩ : ∃ x, Box (w.heap.size = x) := ⟨_, ⟨rfl⟩⟩
  rw [HBe.out] at hB3 hsW ⊢
  have y0 := hB3.cell (i := 0) rfl
  have y1 := hB3.cell (i := 1) rfl
  clear hbW hB3
  go_quiet (first | (go_at_call 36; exact Calls.quiet_of (HE.out _ (HBW.out.trans ⟨rfl, rfl, rfl, Nat.le_refl _, fun _ _ => rfl⟩))))
  go_wp2_with fail
  go_ret
  exact ⟨rfl, HBW.out.trans ⟨rfl, rfl, rfl, Nat.le_refl _, fun _ _ => rfl⟩⟩

end Go.Proofs.Ytjbmkhalmmahkaa
