/- RedoSame: the walk. -/
import Derived.Test.YtfmgncfikaefhaaRedoE
import Derived.Test.YtfmgncfikaefhaaRedoR
import Derived.Test.YtfmgncfikaefhaaRowLaws
namespace Go.Proofs.Ytfmgncfikaefhaa
open Go.RowKit Go.Lib

def RedoM.ex1 : List RecM := [⟨1, 0, 2, 0, 5⟩, ⟨1, 1, 3, 0, 6⟩, ⟨2, 0, 0, 0, 0⟩]
theorem RedoM.ex1_is : RedoM.check RedoM.ex1 = 0 ∧ (RedoM.recOut RedoM.ex1 RedoM.zero).length = 5 ∧ (RedoM.recPg RedoM.ex1 RedoM.zero 2).value = 5 ∧ (RedoM.recPg RedoM.ex1 RedoM.zero 3).value = 0 ∧ (RedoM.recPg RedoM.ex1 RedoM.zero 3).lsn = 4 := by
  decide +kernel

theorem RedoM.rec_same {l : List RecM} {p q : Int → PageM} (h : RedoM.redo l p = RedoM.redo l q) : RedoM.recOut l p = RedoM.recOut l q ∧ RedoM.recPg l p = RedoM.recPg l q := by
  have : RedoM.undone l p = RedoM.undone l q := by unfold RedoM.undone; rw [h]
  unfold RedoM.recOut RedoM.recPg
  rw [this]
  exact ⟨rfl, rfl⟩
theorem RedoM.rec_len (l : List RecM) (p : Int → PageM) : (RedoM.recOut l p).length ≤ l.length + l.length + 12 := by
  unfold RedoM.recOut RedoM.endsTo
  rw [List.length_append, List.length_map]
  have h1 := List.length_filter_le (fun (t : Nat) => (RedoM.undone l p).lo (t : Int)) (List.range 12)
  have h2 := RedoM.undo_out_len (RedoM.won l) ⟨l, RedoM.redo l p, fun _ => false⟩ l
  rw [List.length_range] at h1
  dsimp only at h2
  have h3 : (RedoM.undone l p).out.length ≤ l.length + l.length := h2
  omega
theorem World.below_drewN (w : World) (n : Nat) : Below w.heap.size w (w.drewN n) := by
  have h : ∀ k, k < w.heap.size → (w.drewN n).heap[k]? = w.heap[k]? := fun k _ => rfl
  exact ⟨rfl, rfl, rfl, Nat.le_refl _, h⟩
structure RedoSW (w : World) (B4 B5 : Nat) (a b : Int → Int) (wr : World) : Prop where
  one : Blk wr B4 23 (i20Vals a)
  two : Blk wr B5 23 (i20Vals b)
  below : Below w.heap.size w wr
theorem RedoSW.alloc {w wr : World} {B4 B5 : Nat} {a b : Int → Int} (h : RedoSW w B4 B5 a b wr) (o : Obj) : RedoSW w B4 B5 a b (wr.alloc o) := ⟨h.one.alloc o, h.two.alloc o, h.below.alloc h.below.size o⟩
theorem RedoSW.after {w wr wx : World} {B4 B5 : Nat} {a b : Int → Int} (h : RedoSW w B4 B5 a b wr) (hb : Below wr.heap.size wr wx) : RedoSW w B4 B5 a b wx := ⟨h.one.after hb, h.two.after hb, below_tr h.below hb⟩
theorem ex1_at {n : Nat} (w : World) (h : w.heap.size = n) : RecsAt (w.alloc (.cells #[.int .i64 1, .int .i64 0, .int .i64 2, .int .i64 0, .int .i64 5, .int .i64 1, .int .i64 1, .int .i64 3, .int .i64 0, .int .i64 6, .int .i64 2, .int .i64 0, .int .i64 0, .int .i64 0, .int .i64 0] 25)) (some ⟨n, 0, none⟩) RedoM.ex1 := by
  subst h
  refine Or.inr ⟨w.heap.size, 0, rfl, by simp, fun k hk => ?_⟩
  have hk3 : k < 3 := hk
  rcases (show k = 0 ∨ k = 1 ∨ k = 2 by omega) with rfl | rfl | rfl <;> refine ⟨?_, ?_, ?_, ?_, ?_⟩ <;> go_simp <;> rfl

set_option maxRecDepth 100000 in
set_option maxHeartbeats 8000000 in
theorem redoSame_calls (l : List RecM) (a b : Int → Int) (ao : Option Addr) (cap : Nat) (w : World) (h : RecsAt w ao l) (hnil : ao = none → cap = 0) (hn : l.length ≤ 9000000000000) :
    Calls Try.prog 3 #[.slice ao l.length cap, .agg (i20Vals a).toArray, .agg (i20Vals b).toArray] w fun e w' => e = .returned (.bool true) ∧ Below w.heap.size w w' := by
  have H := box h
  have Hnil := box hnil
  clear h hnil
  obtain ⟨N, HN⟩ : ∃ N, Box (l.length = N) := ⟨_, ⟨rfl⟩⟩
  rw [HN.out]
  obtain ⟨A, HA⟩ : ∃ A, Box ((i20Vals a).toArray = A) := ⟨_, ⟨rfl⟩⟩
  rw [HA.out]
  obtain ⟨B, HB⟩ : ∃ B, Box ((i20Vals b).toArray = B) := ⟨_, ⟨rfl⟩⟩
  rw [HB.out]
  go_enter Try.func3, Try.ntmps3
  go_upto_region 2 with (fail)
  refine name_world (fun W => RedoSW w w.heap.size (w.heap.size + 1) a b W ∧ RecsAt W (some ⟨w.heap.size + 1 + 1, 0, none⟩) RedoM.ex1) ⟨⟨?_, ?_, ?_⟩, ?_⟩ ?_
  · rw [← HA.out]; exact ((Blk.new w (i20Vals a) _).alloc _).alloc _
  · rw [← HB.out]; exact (Blk.new' (by simp) (i20Vals b) _).alloc _
  · exact (((Below.refl _ _).alloc (Nat.le_refl _) _).alloc (by simp) _).alloc (by simp; omega) _
  · exact ex1_at _ (by simp)
  rintro W ⟨hW, hx⟩
  have HW := box hW
  have HC := box (redoRecover_ok RedoM.ex1 RedoM.zero (some ⟨w.heap.size + 1 + 1, 0, none⟩) 3 W hx (by simp) RedoM.ex1_is.1)
  clear hW hx
  go_wp2_with fail
  refine HC.out.mono ?_
  rintro e w' ⟨⟨v, rfl, hown⟩, hb⟩
  obtain ⟨a8, c8, rfl, -, hat8, -, -⟩ := RecsAt.own hown
  rw [RedoM.ex1_is.2.1]
  clear hat8 hown HC
  have HW1 := box (HW.out.after hb)
  clear hb HW
  obtain ⟨P1, HP1⟩ : ∃ P, Box ((pgVals (RedoM.recPg RedoM.ex1 RedoM.zero)).toArray = P) := ⟨_, ⟨rfl⟩⟩
  rw [HP1.out]
  have hsz : (Try.prog.info? 28).map (·.size) = some P1.size := by rw [← HP1.out]; exact pg_size _
  have hone : P1.all (·.oneCell') = true := by rw [← HP1.out]; exact pg_one _
  have hlen : 40 = P1.size := by rw [← HP1.out, List.size_toArray, pgVals_len]
  go_upto_region 3 with (first | (refine wpList_store_new rfl 28 (.tmp 9) (.tmp 31) rfl P1 (by rfl) (by rfl) 28 _ hsz hlen hone ?_))
  refine name_world (fun W => RedoSW w w.heap.size (w.heap.size + 1) a b W ∧ W.cell? ⟨w'.heap.size, 4, none⟩ = some (.int .i64 5) ∧ W.cell? ⟨w'.heap.size, 6, none⟩ = some (.int .i64 0) ∧ W.cell? ⟨w'.heap.size, 7, none⟩ = some (.int .i64 4)) (by
    have hP : Blk (w'.alloc (.cells P1 28)) w'.heap.size 28 (pgVals (RedoM.recPg RedoM.ex1 RedoM.zero)) := by rw [← HP1.out]; exact Blk.new _ _ _
    have h2 := pg_at hP (i := 2) (by omega)
    have h3 := pg_at hP (i := 3) (by omega)
    obtain ⟨-, -, e1, e2, e3⟩ := RedoM.ex1_is
    refine ⟨HW1.out.alloc _, h2.1.trans ?_, h3.1.trans ?_, h3.2.trans ?_⟩
    · exact congrArg (fun z => some (Value.int .i64 z)) e1
    · exact congrArg (fun z => some (Value.int .i64 z)) e2
    · exact congrArg (fun z => some (Value.int .i64 z)) e3) ?_
  clear HW1 hsz hone hlen HP1
  rintro W1 ⟨hW1, k4, k6, k7⟩
  have HW1 := box hW1
  clear hW1
  go_upto_region 5 with (fail)
  clear k4 k6 k7
  obtain ⟨c, Hc⟩ : ∃ c, Box (RedoM.check l = c) := ⟨_, ⟨rfl⟩⟩
  obtain ⟨pa, Hpa⟩ : ∃ p, Box (p = if c = 0 then RedoM.pages l a else RedoM.zero) := ⟨_, ⟨rfl⟩⟩
  obtain ⟨pb, Hpb⟩ : ∃ p, Box (p = if c = 0 then RedoM.pages l b else RedoM.zero) := ⟨_, ⟨rfl⟩⟩
  have hszi : ∀ f : Int → Int, (Try.prog.info? 23).map (·.size) = some (i20Vals f).toArray.size := fun f => by
    rw [List.size_toArray, show (i20Vals f).length = 20 from Tab_len _ _]; kernel_rfl
  have hszp : ∀ p : Int → PageM, (Try.prog.info? 28).map (·.size) = some (pgVals p).toArray.size := fun p => pg_size _
  have hlenp : ∀ p : Int → PageM, 40 = (pgVals p).toArray.size := fun p => by rw [List.size_toArray, pgVals_len]
  have HPa := box (redoPages_any l a c Hc.out pa Hpa.out ao cap W1 (H.out.below HW1.out.below (Nat.le_refl _)) (by omega))
  rw [HN.out] at HPa
  have hA := HW1.out.one
  go_wp2_with (refine wpList_load_row rfl 23 (.tmp 4) rfl w.heap.size (by rfl) 23 _ (0, 0) _ hA Try.underlying23 rfl (hszi a) ?_)
  clear hA
  refine HPa.out.mono ?_
  rintro e w2 ⟨rfl, hb⟩
  have HW2 := box (HW1.out.after hb)
  clear hb HW1 HPa
  go_upto_region 6 with (refine wpList_store_new rfl 28 (.tmp 11) (.tmp 62) rfl (pgVals pa).toArray (by rfl) (by rfl) 28 _ (hszp pa) (hlenp pa) (pg_one pa) ?_)
  obtain ⟨B11, HB11⟩ : ∃ n, Box (w2.heap.size = n) := ⟨_, ⟨rfl⟩⟩
  rw [HB11.out]
  refine name_world (fun W => RedoSW w w.heap.size (w.heap.size + 1) a b W ∧ Blk W B11 28 (pgVals pa)) (by
    rw [← HB11.out]
    exact ⟨HW2.out.alloc _, Blk.new _ _ _⟩) ?_
  clear HW2
  rintro W2 ⟨hW2, hp11⟩
  have HW2 := box hW2
  have HP11 := box hp11
  have HPb := box (redoPages_any l b c Hc.out pb Hpb.out ao cap W2 (H.out.below HW2.out.below (Nat.le_refl _)) (by omega))
  rw [HN.out] at HPb
  have hB := HW2.out.two
  clear hW2 hp11
  go_wp2_with (refine wpList_load_row rfl 23 (.tmp 5) rfl (w.heap.size + 1) (by rfl) 23 _ (0, 0) _ hB Try.underlying23 rfl (hszi b) ?_)
  clear hB
  refine HPb.out.mono ?_
  rintro e w3 ⟨rfl, hb⟩
  have HW3 := box (HW2.out.after hb)
  have HP11' := box (HP11.out.after hb)
  clear hb HW2 HPb HP11
  go_upto_region 7 with (refine wpList_store_new rfl 28 (.tmp 13) (.tmp 68) rfl (pgVals pb).toArray (by rfl) (by rfl) 28 _ (hszp pb) (hlenp pb) (pg_one pb) ?_)
  obtain ⟨B13, HB13⟩ : ∃ n, Box (w3.heap.size = n) := ⟨_, ⟨rfl⟩⟩
  rw [HB13.out]
  refine name_world (fun W => RedoSW w w.heap.size (w.heap.size + 1) a b W ∧ Blk W B11 28 (pgVals pa) ∧ Blk W B13 28 (pgVals pb)) (by
    rw [← HB13.out]
    exact ⟨HW3.out.alloc _, HP11'.out.alloc _, Blk.new _ _ _⟩) ?_
  clear HW3 HP11'
  rintro W3 ⟨hW3, hp11, hp13⟩
  have HW3 := box hW3
  have HP11 := box hp11
  have HP13 := box hp13
  clear hW3 hp11 hp13
  cases hc0 : (c == 0) with
  | false =>
    have qc : (c != 0) = true := by simpa using hc0
    have qcc : (c == c) = true := by simp
    go_wp2_with fail
    go_ret
    exact ⟨by simp, HW3.out.below⟩
  | true =>
    have hcz : c = 0 := by simpa using hc0
    have q0 : (((0 : Int)) != 0) = false := rfl
    clear hc0
    subst hcz
    rw [if_pos rfl] at Hpa Hpb
    go_upto_region 9 with (fail)
    have hgo := check_zero Hc.out
    have HIr := box hgo
    have hN4 : N ≤ 400 := by have := HN.out; omega
    clear hgo
    obtain ⟨M, HM⟩ : ∃ M, Box (RedoM.recOut l pa = M) := ⟨_, ⟨rfl⟩⟩
    obtain ⟨g, Hg⟩ : ∃ g, Box (RedoM.recPg l pa = g) := ⟨_, ⟨rfl⟩⟩
    have HMb : Box (RedoM.recOut l pb = M ∧ RedoM.recPg l pb = g) := ⟨by
      have h := RedoM.rec_same (l := l) (p := pb) (q := pa) (by rw [Hpa.out, Hpb.out, RedoM.redo_pages, RedoM.redo_pages])
      rw [← HM.out, ← Hg.out]; exact h⟩
    obtain ⟨m, Hm⟩ : ∃ m, Box (M.length = m) := ⟨_, ⟨rfl⟩⟩
    have hm8 : m ≤ 812 := by
      have h := RedoM.rec_len l pa
      rw [HM.out, Hm.out, HN.out] at h
      omega
    have HRa := box (redoRecover_ok l pa ao cap W3 (H.out.below HW3.out.below (Nat.le_refl _)) Hnil.out Hc.out)
    rw [HN.out, HM.out, Hg.out, Hm.out] at HRa
    have h11 := HP11.out
    go_wp2_with (refine wpList_load_row rfl 28 (.tmp 11) rfl B11 (by rfl) 28 _ (0, 0) _ h11 Try.underlying28 rfl (hszp pa) ?_)
    clear h11
    refine HRa.out.mono ?_
    rintro e w4 ⟨⟨v4, rfl, hown⟩, hb⟩
    obtain ⟨a15, c15, rfl, -, hat15, hnil15, -⟩ := RecsAt.own hown
    rw [Hm.out]
    have HW4 := box (HW3.out.after hb)
    have HP13' := box (HP13.out.after hb)
    have HA15 := box hat15
    have Hn15 := box hnil15
    clear hb HW3 HRa HP13 HP11 hown hat15 hnil15
    go_upto_region 10 with (refine wpList_store_new rfl 28 (.tmp 16) (.tmp 84) rfl (pgVals g).toArray (by rfl) (by rfl) 28 _ (hszp g) (hlenp g) (pg_one g) ?_)
    obtain ⟨B16, HB16⟩ : ∃ n, Box (w4.heap.size = n) := ⟨_, ⟨rfl⟩⟩
    rw [HB16.out]
    refine name_world (fun W => RedoSW w w.heap.size (w.heap.size + 1) a b W ∧ Blk W B13 28 (pgVals pb) ∧ Blk W B16 28 (pgVals g) ∧ RecsAt W a15 M) (by
      rw [← HB16.out]
      exact ⟨HW4.out.alloc _, HP13'.out.alloc _, Blk.new _ _ _, HA15.out.below ((Below.refl _ _).alloc (Nat.le_refl _) _) (Nat.le_refl _)⟩) ?_
    clear HW4 HP13' HA15
    rintro W4 ⟨hW4, hp13, hp16, hat15⟩
    have HW4 := box hW4
    have HP13 := box hp13
    have HP16 := box hp16
    have HA15 := box hat15
    have HRb := box (redoRecover_ok l pb ao cap W4 (H.out.below HW4.out.below (Nat.le_refl _)) Hnil.out Hc.out)
    rw [HN.out, HMb.out.1, HMb.out.2, Hm.out] at HRb
    clear hW4 hp16 hat15
    go_wp2_with (refine wpList_load_row rfl 28 (.tmp 13) rfl B13 (by rfl) 28 _ (0, 0) _ hp13 Try.underlying28 rfl (hszp pb) ?_)
    clear hp13
    refine HRb.out.mono ?_
    rintro e w5 ⟨⟨v5, rfl, hown⟩, hb⟩
    obtain ⟨a17, c17, rfl, -, hat17, hnil17, -⟩ := RecsAt.own hown
    rw [Hm.out]
    have HW5 := box (HW4.out.after hb)
    have HP16' := box (HP16.out.after hb)
    have HA15' := box (HA15.out.below hb (Nat.le_refl _))
    have HA17 := box hat17
    clear hb HW4 HRb HP13 HP16 HA15 hown hat17 hnil17
    go_upto_region 11 with (refine wpList_store_new rfl 28 (.tmp 18) (.tmp 91) rfl (pgVals g).toArray (by rfl) (by rfl) 28 _ (hszp g) (hlenp g) (pg_one g) ?_)
    obtain ⟨B18, HB18⟩ : ∃ n, Box (w5.heap.size = n) := ⟨_, ⟨rfl⟩⟩
    rw [HB18.out]
    refine name_world (fun W => RedoSW w w.heap.size (w.heap.size + 1) a b W ∧ Blk W B16 28 (pgVals g) ∧ Blk W B18 28 (pgVals g) ∧ RecsAt W a15 M ∧ RecsAt W a17 M) (by
      rw [← HB18.out]
      have hbb := (Below.refl w5.heap.size w5).alloc (Nat.le_refl _) (.cells (pgVals g).toArray 28)
      exact ⟨HW5.out.alloc _, HP16'.out.alloc _, Blk.new _ _ _, HA15'.out.below hbb (Nat.le_refl _), HA17.out.below hbb (Nat.le_refl _)⟩) ?_
    clear HW5 HP16' HA15' HA17
    rintro W5 ⟨hW5, hp16, hp18, hat15, hat17⟩
    have HW5 := box hW5
    have HP16 := box hp16
    have HP18 := box hp18
    have HA15 := box hat15
    have HEq := box (equal_recs M M a15 a17 c15 c17 W5 hat15 hat17 (by have := Hm.out; omega) (by have := Hm.out; omega))
    rw [Hm.out] at HEq
    clear hW5 hp16 hp18 hat15 hat17
    go_wp2_with fail
    refine HEq.out.mono ?_
    rintro e w6 ⟨rfl, n6, hw6⟩
    have hbw : Below W5.heap.size W5 w6 := by rw [hw6]; exact World.below_drewN _ _
    have HW6 := box (HW5.out.after hbw)
    have HP16' := box (HP16.out.after hbw)
    have HA15' := box (HA15.out.below hbw (Nat.le_refl _))
    have hp16 := HP16.out.after hbw
    have hp18 := HP18.out.after hbw
    have hsame := pages_same g w6
    have qt : decide True = true := rfl
    rw [qt]
    clear hbw hw6 HW5 HP16 HA15 HEq HP18
    go_wp2_with (first | (refine wpList_load_row_on (by rfl) 28 (.tmp 16) rfl B16 (by rfl) 28 _ (0, 0) _ hp16 Try.underlying28 rfl (hszp g) ?_) | (refine wpList_load_row_on (by rfl) 28 (.tmp 18) rfl B18 (by rfl) 28 _ (0, 0) _ hp18 Try.underlying28 rfl (hszp g) ?_))
    · go_ret
      exact ⟨rfl, HW6.out.below⟩
    have hm4' : m ≤ 400 := by omega
    have hag := RedoM.recover_again HIr.out.1 pa (by rw [Hpa.out, RedoM.redo_pages])
    rw [HM.out, Hg.out] at hag
    have HX := box hag
    clear hag hp16 hp18 hsame
    have hck : RedoM.check M = 0 := by
      unfold RedoM.check
      rw [if_neg (by have := Hm.out; omega)]
      exact HX.out.1
    have HRc := box (redoRecover_ok M g a15 c15 w6 HA15'.out Hn15.out hck)
    rw [HX.out.2.1, HX.out.2.2, Hm.out] at HRc
    clear hck
    refine HRc.out.mono ?_
    rintro e w7 ⟨⟨v7, rfl, hown⟩, hb⟩
    obtain ⟨a19, c19, rfl, -, hat19, hnil19, -⟩ := RecsAt.own hown
    rw [Hm.out]
    have HW7 := box (HW6.out.after hb)
    have HP16 := box (HP16'.out.after hb)
    have HA15 := box (HA15'.out.below hb (Nat.le_refl _))
    have HA19 := box hat19
    clear hb HW6 HRc HP16' HA15' hown hat19 hnil19
    go_upto_region 16 with (refine wpList_store_new rfl 28 (.tmp 20) (.tmp 118) rfl (pgVals g).toArray (by rfl) (by rfl) 28 _ (hszp g) (hlenp g) (pg_one g) ?_)
    obtain ⟨B20, HB20⟩ : ∃ n, Box (w7.heap.size = n) := ⟨_, ⟨rfl⟩⟩
    rw [HB20.out]
    refine name_world (fun W => RedoSW w w.heap.size (w.heap.size + 1) a b W ∧ Blk W B16 28 (pgVals g) ∧ Blk W B20 28 (pgVals g) ∧ RecsAt W a15 M ∧ RecsAt W a19 M) (by
      rw [← HB20.out]
      have hbb := (Below.refl w7.heap.size w7).alloc (Nat.le_refl _) (.cells (pgVals g).toArray 28)
      exact ⟨HW7.out.alloc _, HP16.out.alloc _, Blk.new _ _ _, HA15.out.below hbb (Nat.le_refl _), HA19.out.below hbb (Nat.le_refl _)⟩) ?_
    clear HW7 HP16 HA15 HA19
    rintro W7 ⟨hW7, hp16, hp20, hat15, hat19⟩
    have HW7 := box hW7
    have HP16 := box hp16
    have HP20 := box hp20
    have HEq := box (equal_recs M M a19 a15 c19 c15 W7 hat19 hat15 (by have := Hm.out; omega) (by have := Hm.out; omega))
    rw [Hm.out] at HEq
    clear hW7 hp16 hp20 hat15 hat19
    go_wp2_with fail
    refine HEq.out.mono ?_
    rintro e w8 ⟨rfl, n8, hw8⟩
    have hbw : Below W7.heap.size W7 w8 := by rw [hw8]; exact World.below_drewN _ _
    have HW8 := box (HW7.out.after hbw)
    have hp16 := HP16.out.after hbw
    have hp20 := HP20.out.after hbw
    have hsame := pages_same g w8
    rw [qt]
    clear hbw hw8 HW7 HEq
    go_wp2_with (first | (refine wpList_load_row_on (by rfl) 28 (.tmp 16) rfl B16 (by rfl) 28 _ (0, 0) _ hp16 Try.underlying28 rfl (hszp g) ?_) | (refine wpList_load_row_on (by rfl) 28 (.tmp 20) rfl B20 (by rfl) 28 _ (0, 0) _ hp20 Try.underlying28 rfl (hszp g) ?_))
    go_ret
    exact ⟨rfl, HW8.out.below⟩
end Go.Proofs.Ytfmgncfikaefhaa
