/- RedoKeeps: the walk. -/
import Derived.Test.YtfmgncfikaefhaaRedoS
import Derived.Test.YtfmgncfikaefhaaRedoF
import Derived.BigQuiet
namespace Go.Proofs.Ytfmgncfikaefhaa
open Go.RowKit Go.Lib

def RedoM.ex2 : List RecM := [⟨1, 0, 2, 0, 5⟩, ⟨2, 0, 0, 0, 0⟩, ⟨1, 1, 2, 5, 6⟩]
theorem RedoM.ex2_is : RedoM.check RedoM.ex2 = 0 ∧ (RedoM.recOut RedoM.ex2 RedoM.zero).length = 5 ∧ (RedoM.recPg RedoM.ex2 RedoM.zero 2).value = 5 := by
  decide +kernel
theorem ex2_at {n : Nat} (w : World) (h : w.heap.size = n) : RecsAt (w.alloc (.cells #[.int .i64 1, .int .i64 0, .int .i64 2, .int .i64 0, .int .i64 5, .int .i64 2, .int .i64 0, .int .i64 0, .int .i64 0, .int .i64 0, .int .i64 1, .int .i64 1, .int .i64 2, .int .i64 5, .int .i64 6] 25)) (some ⟨n, 0, none⟩) RedoM.ex2 := by
  subst h
  refine Or.inr ⟨w.heap.size, 0, rfl, by simp, fun k hk => ?_⟩
  have hk3 : k < 3 := hk
  rcases (show k = 0 ∨ k = 1 ∨ k = 2 by omega) with rfl | rfl | rfl <;> refine ⟨?_, ?_, ?_, ?_, ?_⟩ <;> go_simp <;> rfl

set_option maxRecDepth 20000 in
set_option maxHeartbeats 1000000 in
theorem keeps_one (b : Nat) (t : Int) (o : RecM) (w : World) (hb : b < w.heap.size) (h : w.cell? ⟨b, 1, none⟩ = some (.int .i64 t)) :
    Calls Try.prog 13 (#[.agg #[.int .i64 o.kind, .int .i64 o.tx, .int .i64 o.item, .int .i64 o.old, .int .i64 o.new]] ++ #[.pointer (some ⟨b, 0, none⟩)]) w fun e w' => e = .returned (.bool (decide (o.tx = t) && !decide (o.kind = 1))) ∧ Below w.heap.size w w' := by
  obtain ⟨k, x, i, od, nw⟩ := o
  have e1 : decide (x = t) = (x == t) := rfl
  have e2 : (!decide (k = 1)) = (k != 1) := rfl
  rw [e1, e2]
  have hne : ¬ b = w.heap.size := by omega
  have HB := box ((Below.refl w.heap.size w).alloc (Nat.le_refl _) (.cells #[.int .i64 k, .int .i64 x, .int .i64 i, .int .i64 od, .int .i64 nw] 25))
  cases h1 : (x == t) with
  | true =>
    cases h2 : (k != 1) with
    | true =>
      go_enter Try.func13, Try.ntmps13
      go_wp2_with fail
      go_ret
      exact ⟨rfl, HB.out⟩
    | false =>
      go_enter Try.func13, Try.ntmps13
      go_wp2_with fail
      go_ret
      exact ⟨rfl, HB.out⟩
  | false =>
    go_enter Try.func13, Try.ntmps13
    go_wp2_with fail
    go_ret
    exact ⟨rfl, HB.out⟩

structure RedoKW (w : World) (B3 : Nat) (a : Int → Int) (wr : World) : Prop where
  one : Blk wr B3 23 (i20Vals a)
  below : Below w.heap.size w wr
theorem RedoKW.alloc {w wr : World} {B3 : Nat} {a : Int → Int} (h : RedoKW w B3 a wr) (o : Obj) : RedoKW w B3 a (wr.alloc o) := ⟨h.one.alloc o, h.below.alloc h.below.size o⟩
theorem RedoKW.after {w wr wx : World} {B3 : Nat} {a : Int → Int} (h : RedoKW w B3 a wr) (hb : Below wr.heap.size wr wx) : RedoKW w B3 a wx := ⟨h.one.after hb, below_tr h.below hb⟩

structure RedoKL (w : World) (B12 B13 : Nat) (g : Int → PageM) (f : Int → Int) (wr : World) : Prop where
  pages : Blk wr B12 28 (pgVals g)
  want : Blk wr B13 23 (i20Vals f)
  below : Below w.heap.size w wr
theorem RedoKL.alloc {w wr : World} {B12 B13 : Nat} {g : Int → PageM} {f : Int → Int} (h : RedoKL w B12 B13 g f wr) (o : Obj) : RedoKL w B12 B13 g f (wr.alloc o) := ⟨h.pages.alloc o, h.want.alloc o, h.below.alloc h.below.size o⟩
theorem RedoKL.after {w wr wx : World} {B12 B13 : Nat} {g : Int → PageM} {f : Int → Int} (h : RedoKL w B12 B13 g f wr) (hb : Below wr.heap.size wr wx) : RedoKL w B12 B13 g f wx := ⟨h.pages.after hb, h.want.after hb, below_tr h.below hb⟩
theorem i20_set {w : World} {b t : Nat} {f : Int → Int} (h : Blk w b t (i20Vals f)) (i : Nat) (v : Int) : Blk (w.setCell ⟨b, i, none⟩ (.int .i64 v)) b t (i20Vals (RedoM.upI f (i : Int) v)) := by
  have h1 := Blk.tabSet h i (.int .i64 v)
  unfold i20Vals
  rw [Tab_congr (g := upd (fun i => Value.int .i64 (f (i : Int))) i (.int .i64 v)) (fun j hj => ?_)]
  · exact h1
  · by_cases e : j = i
    · subst e; rw [upd_same, RedoM.upI_same]
    · rw [upd_other _ _ e, RedoM.upI_other _ _ (by omega)]

set_option maxRecDepth 100000 in
set_option maxHeartbeats 8000000 in
theorem redoKeeps_calls (l : List RecM) (a : Int → Int) (ao : Option Addr) (cap : Nat) (w : World) (h : RecsAt w ao l) (hnil : ao = none → cap = 0) (hn : l.length ≤ 9000000000000) :
    Calls Try.prog 4 #[.slice ao l.length cap, .agg (i20Vals a).toArray] w fun e w' => e = .returned (.bool true) ∧ Below w.heap.size w w' := by
  have H := box h
  have Hnil := box hnil
  clear h hnil
  obtain ⟨N, HN⟩ : ∃ N, Box (l.length = N) := ⟨_, ⟨rfl⟩⟩
  rw [HN.out]
  obtain ⟨A, HA⟩ : ∃ A, Box ((i20Vals a).toArray = A) := ⟨_, ⟨rfl⟩⟩
  rw [HA.out]
  go_enter Try.func4, Try.ntmps4
  go_upto_region 2 with (fail)
  refine name_world (fun W => RedoKW w w.heap.size a W ∧ RecsAt W (some ⟨w.heap.size + 1, 0, none⟩) RedoM.ex2) ⟨⟨?_, ?_⟩, ?_⟩ ?_
  · rw [← HA.out]; exact (Blk.new w (i20Vals a) _).alloc _
  · exact ((Below.refl _ _).alloc (Nat.le_refl _) _).alloc (by simp) _
  · exact ex2_at _ (by simp)
  rintro W ⟨hW, hx⟩
  have HW := box hW
  have HC := box (redoRecover_ok RedoM.ex2 RedoM.zero (some ⟨w.heap.size + 1, 0, none⟩) 3 W hx (by simp) RedoM.ex2_is.1)
  clear hW hx
  go_wp2_with fail
  refine HC.out.mono ?_
  rintro e w' ⟨⟨v, rfl, hown⟩, hb⟩
  obtain ⟨a8, c8, rfl, -, hat8, -, -⟩ := RecsAt.own hown
  rw [RedoM.ex2_is.2.1]
  clear hat8 hown HC
  have HW1 := box (HW.out.after hb)
  clear hb HW
  have hszp : ∀ p : Int → PageM, (Try.prog.info? 28).map (·.size) = some (pgVals p).toArray.size := fun p => pg_size _
  have hszi : ∀ f : Int → Int, (Try.prog.info? 23).map (·.size) = some (i20Vals f).toArray.size := fun f => by
    rw [List.size_toArray, show (i20Vals f).length = 20 from Tab_len _ _]; kernel_rfl
  have hlenp : ∀ p : Int → PageM, 40 = (pgVals p).toArray.size := fun p => by rw [List.size_toArray, pgVals_len]
  obtain ⟨P1, HP1⟩ : ∃ P, Box ((pgVals (RedoM.recPg RedoM.ex2 RedoM.zero)).toArray = P) := ⟨_, ⟨rfl⟩⟩
  rw [HP1.out]
  have hsz : (Try.prog.info? 28).map (·.size) = some P1.size := by rw [← HP1.out]; exact pg_size _
  have hone : P1.all (·.oneCell') = true := by rw [← HP1.out]; exact pg_one _
  have hlen : 40 = P1.size := by rw [← HP1.out, List.size_toArray, pgVals_len]
  go_upto_region 3 with (first | (refine wpList_store_new rfl 28 (.tmp 7) (.tmp 27) rfl P1 (by rfl) (by rfl) 28 _ hsz hlen hone ?_))
  refine name_world (fun W => RedoKW w w.heap.size a W ∧ W.cell? ⟨w'.heap.size, 4, none⟩ = some (.int .i64 5)) (by
    have hP : Blk (w'.alloc (.cells P1 28)) w'.heap.size 28 (pgVals (RedoM.recPg RedoM.ex2 RedoM.zero)) := by rw [← HP1.out]; exact Blk.new _ _ _
    have h2 := pg_at hP (i := 2) (by omega)
    obtain ⟨-, -, e1⟩ := RedoM.ex2_is
    refine ⟨HW1.out.alloc _, h2.1.trans ?_⟩
    exact congrArg (fun z => some (Value.int .i64 z)) e1) ?_
  clear HW1 hsz hone hlen HP1
  rintro W1 ⟨hW1, k4⟩
  have HW1 := box hW1
  clear hW1
  go_upto_region 5 with (fail)
  clear k4
  obtain ⟨c, Hc⟩ : ∃ c, Box (RedoM.check l = c) := ⟨_, ⟨rfl⟩⟩
  obtain ⟨pa, Hpa⟩ : ∃ p, Box (p = if c = 0 then RedoM.pages l a else RedoM.zero) := ⟨_, ⟨rfl⟩⟩
  have HPa := box (redoPages_any l a c Hc.out pa Hpa.out ao cap W1 (H.out.below HW1.out.below (Nat.le_refl _)) (by omega))
  rw [HN.out] at HPa
  have hA := HW1.out.one
  go_wp2_with (refine wpList_load_row rfl 23 (.tmp 3) rfl w.heap.size (by rfl) 23 _ (0, 0) _ hA Try.underlying23 rfl (hszi a) ?_)
  clear hA
  refine HPa.out.mono ?_
  rintro e w2 ⟨rfl, hb⟩
  have HW2 := box (HW1.out.after hb)
  clear hb HW1 HPa
  go_upto_region 6 with (refine wpList_store_new rfl 28 (.tmp 9) (.tmp 41) rfl (pgVals pa).toArray (by rfl) (by rfl) 28 _ (hszp pa) (hlenp pa) (pg_one pa) ?_)
  obtain ⟨B9, HB9⟩ : ∃ n, Box (w2.heap.size = n) := ⟨_, ⟨rfl⟩⟩
  rw [HB9.out]
  refine name_world (fun W => RedoKW w w.heap.size a W ∧ Blk W B9 28 (pgVals pa)) (by
    rw [← HB9.out]
    exact ⟨HW2.out.alloc _, Blk.new _ _ _⟩) ?_
  clear HW2
  rintro W2 ⟨hW2, hp9⟩
  have HW2 := box hW2
  have HP9 := box hp9
  clear hW2 hp9
  cases hc0 : (c == 0) with
  | false =>
    have qc : (c != 0) = true := by rw [bne, hc0]; rfl
    have hpz := Hpa.out
    rw [if_neg (by simpa using hc0)] at hpz
    clear Hpa
    subst hpz
    have h9 := HP9.out
    have hsame : (Op.equalIn 10000 28 (.agg (pgVals RedoM.zero).toArray) (.agg #[.int .i64 0, .int .i64 0, .int .i64 0, .int .i64 0, .int .i64 0, .int .i64 0, .int .i64 0, .int .i64 0, .int .i64 0, .int .i64 0, .int .i64 0, .int .i64 0, .int .i64 0, .int .i64 0, .int .i64 0, .int .i64 0, .int .i64 0, .int .i64 0, .int .i64 0, .int .i64 0, .int .i64 0, .int .i64 0, .int .i64 0, .int .i64 0, .int .i64 0, .int .i64 0, .int .i64 0, .int .i64 0, .int .i64 0, .int .i64 0, .int .i64 0, .int .i64 0, .int .i64 0, .int .i64 0, .int .i64 0, .int .i64 0, .int .i64 0, .int .i64 0, .int .i64 0, .int .i64 0])).run Try.prog W2 = .ok true W2 := pages_same RedoM.zero W2
    go_wp2_with (refine wpList_load_row rfl 28 (.tmp 9) rfl B9 (by rfl) 28 _ (0, 0) _ h9 Try.underlying28 rfl (hszp RedoM.zero) ?_)
    go_ret
    exact ⟨by simp, HW2.out.below⟩
  | true =>
    have hcz : c = 0 := by simpa using hc0
    have q0 : (((0 : Int)) != 0) = false := rfl
    clear hc0
    subst hcz
    rw [if_pos rfl] at Hpa
    have hgo := check_zero Hc.out
    have HIr := box hgo
    have HI := box (RedoM.inv_of l hgo.1)
    have hN4 : N ≤ 400 := by have := HN.out; omega
    clear hgo
    obtain ⟨M, HM⟩ : ∃ M, Box (RedoM.recOut l pa = M) := ⟨_, ⟨rfl⟩⟩
    obtain ⟨g, Hg⟩ : ∃ g, Box (RedoM.recPg l pa = g) := ⟨_, ⟨rfl⟩⟩
    have HKe := box (fun i => RedoM.recover_keeps HIr.out.1 pa (by rw [Hpa.out, RedoM.redo_pages]) i)
    rw [Hg.out] at HKe
    obtain ⟨m, Hm⟩ : ∃ m, Box (M.length = m) := ⟨_, ⟨rfl⟩⟩
    have HRa := box (redoRecover_ok l pa ao cap W2 (H.out.below HW2.out.below (Nat.le_refl _)) Hnil.out Hc.out)
    rw [HN.out, HM.out, Hg.out, Hm.out] at HRa
    go_upto_region 8 with (fail)
    have h9 := HP9.out
    go_wp2_with (refine wpList_load_row rfl 28 (.tmp 9) rfl B9 (by rfl) 28 _ (0, 0) _ h9 Try.underlying28 rfl (hszp pa) ?_)
    clear h9
    refine HRa.out.mono ?_
    rintro e w3 ⟨⟨v4, rfl, hown⟩, hb⟩
    obtain ⟨a11, c11, rfl, -, -, -, -⟩ := RecsAt.own hown
    rw [Hm.out]
    have HW3 := box (HW2.out.after hb)
    clear hb HW2 HRa HP9 hown
    go_upto_region 9 with (refine wpList_store_new rfl 28 (.tmp 12) (.tmp 53) rfl (pgVals g).toArray (by rfl) (by rfl) 28 _ (hszp g) (hlenp g) (pg_one g) ?_)
    obtain ⟨B12, HB12⟩ : ∃ n, Box (w3.heap.size = n) := ⟨_, ⟨rfl⟩⟩
    rw [HB12.out]
    have hb12 : w.heap.size ≤ B12 := by have := HW3.out.below.size; have := HB12.out; omega
    refine name_world (fun W => Below w.heap.size w W ∧ Blk W B12 28 (pgVals g) ∧ W.heap.size = B12 + 1) (by
      rw [← HB12.out]
      exact ⟨(HW3.out.alloc _).below, Blk.new _ _ _, by simp⟩) ?_
    clear HW3
    rintro W3 ⟨hW3, hp12, hs3⟩
    have HW3 := box hW3
    have HP12 := box hp12
    clear hW3 hp12
    go_upto_region 12 with (fail)
    refine name_world (fun W => RedoKL w B12 (B12 + 1) g (fun _ => 0) W) ⟨HP12.out.alloc _, Blk.new' hs3 (Tab 20 fun _ => .int .i64 0) _, HW3.out.alloc HW3.out.size _⟩ ?_
    rintro W4 hW4
    obtain ⟨B13, HB13⟩ : ∃ x, Box (B12 + 1 = x) := ⟨_, ⟨rfl⟩⟩
    rw [HB13.out] at hW4 ⊢
    have HW4 := box hW4
    have hb13 : w.heap.size ≤ B13 := by have := HB13.out; omega
    have h1213 : B12 ≠ B13 := by have := HB13.out; omega
    clear hW4 hs3 HW3 HP12
    go_wp2_with fail
    go_loopw [59] (fun t59 wr => ∃ k : Nat, k ≤ N ∧ t59 = .int .i64 (k : Int) ∧ Box (RedoKL w B12 B13 g (RedoM.want (RedoM.won l) (l.take k)) wr)) (fun t59 _ => N - (intOf t59).toNat)
    case atStart => exact ⟨0, Nat.zero_le _, rfl, HW4⟩
    case round =>
      obtain ⟨k, hk, rfl, HR⟩ := hrel
      by_cases hlt : k < N
      case neg =>
        have hkn : k = N := by omega
        subst hkn
        rw [List.take_of_length_le (by have := HN.out; omega)] at HR
        have HV := box (fun (i : Nat) (hi : i < 20) (W : World) (hW : RedoKL w B12 B13 g (RedoM.want (RedoM.won l) l) W) => (show W.cell? ⟨B12, i * 2, none⟩ = some (.int .i64 (g (i : Int)).value) ∧ W.cell? ⟨B13, i, none⟩ = some (.int .i64 (g (i : Int)).value) by
          refine ⟨(pg_at hW.pages hi).1, ?_⟩
          rw [HKe.out]
          exact hW.want.tabCell hi))
        generalize RedoM.want (RedoM.won l) l = F at *
        go_wp2_with fail
        go_loopw [78] (fun t78 wr => ∃ k : Nat, k ≤ 20 ∧ t78 = .int .i64 (k : Int) ∧ Box (RedoKL w B12 B13 g F wr)) (fun t78 _ => 20 - (intOf t78).toNat)
        case atStart => exact ⟨0, Nat.zero_le _, rfl, HR⟩
        case round =>
          obtain ⟨j, hj, rfl, HR2⟩ := hrel
          by_cases hlt2 : j < 20
          case neg =>
            have hjn : j = 20 := by omega
            subst hjn
            go_wp2_with fail
            go_ret
            exact ⟨rfl, HR2.out.below⟩
          have qd : decide ((j : Int) < 20) = true := by simp; omega
          have hji : (j : Int) < 20 := by omega
          obtain ⟨v1, v2⟩ := HV.out j hlt2 _ HR2.out
          generalize (g (j : Int)).value = gv at *
          have qv : (gv != gv) = false := by simp
          clear HR hlt
          go_upto_region 22 with (fail)
          go_quiet (fail)
          go_wp2_with fail
          go_roundw
          case rel => exact ⟨j + 1, hlt2, by go_num, ⟨HR2.out.after (World.below_drewN _ _)⟩⟩
          case measure => simp [intOf]; omega
      have hkl : k < l.length := by have := HN.out; omega
      obtain ⟨b, off, rfl, hb, hrow⟩ := (H.out.below HR.out.below (Nat.le_refl _)).resolve_left (by intro h; rw [h] at hkl; simp at hkl)
      obtain ⟨c0, c1, c2, c3, c4⟩ := hrow k hkl
      have HPs : Box (RedoM.want (RedoM.won l) (l.take (k + 1)) = if l[k].kind = 1 ∧ RedoM.won l l[k].tx = true then RedoM.upI (RedoM.want (RedoM.won l) (l.take k)) l[k].item l[k].new else RedoM.want (RedoM.won l) (l.take k)) := ⟨by
        rw [List.take_succ_eq_append_getElem hkl, RedoM.want_snoc]⟩
      have hir := HI.out.item l[k] (List.getElem_mem hkl)
      generalize l[k] = r at *
      obtain ⟨kd, tx, it, od, nw⟩ := r
      dsimp only at c0 c1 c2 c3 c4 hir HPs
      obtain ⟨i, hi⟩ := Int.eq_ofNat_of_zero_le hir.1
      subst hi
      have hi20 : i < 20 := by omega
      have hii : (i : Int) < 20 := by omega
      clear hrow hir
      go_upto_region 15 with (fail)
      refine name_world (fun X => RedoKL w B12 B13 g (RedoM.want (RedoM.won l) (l.take k)) X ∧ Blk X wr.heap.size 25 (RecM.vals ⟨kd, tx, (i : Int), od, nw⟩)) ⟨HR.out.alloc _, Blk.new _ _ _⟩ ?_
      rintro X ⟨hX, hr⟩
      obtain ⟨Br, HBr⟩ : ∃ x, Box (wr.heap.size = x) := ⟨_, ⟨rfl⟩⟩
      rw [HBr.out] at hr ⊢
      have HX := box hX
      have HRr := box hr
      have HCl := box (containsFunc_recs l (some ⟨b, off, none⟩) cap 13 #[.pointer (some ⟨Br, 0, none⟩)] (fun o => decide (o.tx = tx) && !decide (o.kind = 1)) X (H.out.below HX.out.below (Nat.le_refl _)) (by omega)
        (fun Y hY o => keeps_one Br tx o Y (Nat.lt_of_lt_of_le hr.lt hY.size) ((hr.after hY).cell (i := 1) rfl)) (enters_fn Try.func13 (by kernel_rfl) rfl))
      rw [HN.out, show l.any (fun o => decide (o.tx = tx) && !decide (o.kind = 1)) = RedoM.won l tx from rfl] at HCl
      clear hX hr c0 c1 c2 c3 c4 HR
      go_wp2_with fail
      refine HCl.out.mono ?_
      rintro e Y ⟨rfl, hb⟩
      have hr := HRr.out.after hb
      have HY := box (HX.out.after hb)
      obtain ⟨wn, HWn⟩ : ∃ x, Box (RedoM.won l tx = x) := ⟨_, ⟨rfl⟩⟩
      rw [HWn.out] at HPs ⊢
      have y0 := hr.cell (i := 0) rfl
      have y2 := hr.cell (i := 2) rfl
      have y4 := hr.cell (i := 4) rfl
      dsimp only at y0 y2 y4
      have z1 := HY.out.want.tabCell hi20
      have f2 := HY.out.want.frozen i
      clear hr hb HCl HX HRr
      by_cases hk1 : kd = 1
      · have q1 : (kd == 1) = true := by simpa using hk1
        cases wn with
        | true =>
          have HW9 : Box (RedoKL w B12 B13 g (RedoM.want (RedoM.won l) (l.take (k + 1))) (Y.setCell ⟨B13, i, none⟩ (.int .i64 nw))) := ⟨by
            rw [HPs.out, if_pos ⟨hk1, rfl⟩]
            exact ⟨HY.out.pages.other h1213 _, i20_set HY.out.want i nw, HY.out.below.setCell hb13 _⟩⟩
          clear hk1
          go_wp2_with fail
          go_roundw
          case rel => exact ⟨k + 1, hlt, by go_num, HW9⟩
          case measure => simp [intOf]; omega
        | false =>
          have HW9 : Box (RedoKL w B12 B13 g (RedoM.want (RedoM.won l) (l.take (k + 1))) Y) := ⟨by
            rw [HPs.out, if_neg (fun h => by cases h.2)]; exact HY.out⟩
          clear hk1
          go_wp2_with fail
          go_roundw
          case rel => exact ⟨k + 1, hlt, by go_num, HW9⟩
          case measure => simp [intOf]; omega
      · have q1 : (kd == 1) = false := by simpa using hk1
        have HW9 : Box (RedoKL w B12 B13 g (RedoM.want (RedoM.won l) (l.take (k + 1))) Y) := ⟨by
          rw [HPs.out, if_neg (fun h => hk1 h.1)]; exact HY.out⟩
        clear hk1
        go_wp2_with fail
        go_roundw
        case rel => exact ⟨k + 1, hlt, by go_num, HW9⟩
        case measure => simp [intOf]; omega
end Go.Proofs.Ytfmgncfikaefhaa
