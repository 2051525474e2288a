/- redo.Pages: what it computes. -/
import Derived.Test.YtfmgncfikaefhaaRedoC
import Derived.Laws.Rows
import Derived.Laws.Tables
namespace Go.Proofs.Ytfmgncfikaefhaa
open Go.RowKit Go.Lib

/-- Twenty pages as cells. -/
def pgVals (p : Int → PageM) : List Value := Tab 40 fun j => .int .i64 (if j % 2 = 0 then (p ((j / 2 : Nat) : Int)).value else (p ((j / 2 : Nat) : Int)).lsn)
theorem pgVals_len (p : Int → PageM) : (pgVals p).length = 40 := Tab_len _ _
theorem pg_at {w : World} {b t : Nat} {p : Int → PageM} (h : Blk w b t (pgVals p)) {i : Nat} (hi : i < 20) : w.cell? ⟨b, i * 2, none⟩ = some (.int .i64 (p (i : Int)).value) ∧ w.cell? ⟨b, i * 2 + 1, none⟩ = some (.int .i64 (p (i : Int)).lsn) := by
  have h1 := Blk.tabCell h (i := i * 2) (by omega)
  have h2 := Blk.tabCell h (i := i * 2 + 1) (by omega)
  rw [if_pos (by omega), show i * 2 / 2 = i by omega] at h1
  rw [if_neg (by omega), show (i * 2 + 1) / 2 = i by omega] at h2
  exact ⟨h1, h2⟩
theorem pg_set {w : World} {b t : Nat} {p : Int → PageM} (h : Blk w b t (pgVals p)) (i : Nat) (v s : Int) : Blk ((w.setCell ⟨b, i * 2, none⟩ (.int .i64 v)).setCell ⟨b, i * 2 + 1, none⟩ (.int .i64 s)) b t (pgVals (RedoM.upI p (i : Int) ⟨v, s⟩)) := by
  have h1 := (Blk.tabSet h (i * 2) (.int .i64 v)).tabSet (i * 2 + 1) (.int .i64 s)
  unfold pgVals
  rw [Tab_congr (g := upd (upd (fun j => Value.int .i64 (if j % 2 = 0 then (p ((j / 2 : Nat) : Int)).value else (p ((j / 2 : Nat) : Int)).lsn)) (i * 2) (.int .i64 v)) (i * 2 + 1) (.int .i64 s)) (fun j hj => ?_)]
  · exact h1
  · by_cases e1 : j = i * 2 + 1
    · subst e1
      rw [upd_same, if_neg (by omega), show (i * 2 + 1) / 2 = i by omega, RedoM.upI_same]
    · rw [upd_other _ _ e1]
      by_cases e2 : j = i * 2
      · subst e2
        rw [upd_same, if_pos (by omega), show i * 2 / 2 = i by omega, RedoM.upI_same]
      · rw [upd_other _ _ e2, RedoM.upI_other _ _ (by omega)]
def i20Vals (f : Int → Int) : List Value := Tab 20 fun i => .int .i64 (f (i : Int))
theorem pg_size (p : Int → PageM) : (Try.prog.info? 28).map (·.size) = some (pgVals p).toArray.size := by
  rw [List.size_toArray, pgVals_len]; kernel_rfl
theorem pg_one (p : Int → PageM) : (pgVals p).toArray.all (·.oneCell') = true := all_oneCell_toArray (by
  intro u hu
  unfold pgVals Tab at hu
  obtain ⟨i, _, rfl⟩ := List.mem_map.1 hu
  rfl)
theorem Blk.row {w : World} {b t : Nat} {C : List Value} (h : Blk w b t C) (D : List Value) : Blk (w.setRow b D.toArray) b t D := setRow_heap w b C.toArray D.toArray t (0, 0) h
theorem Blk.rowOther {w : World} {b t g : Nat} {C : List Value} (h : Blk w b t C) (D : Array Value) (hne : b ≠ g) : Blk (w.setRow g D) b t C := (setRow_other w g b D hne).trans h
theorem belowSetRow {N b : Nat} {a w : World} (h : Below N a w) (hb : N ≤ b) (D : Array Value) : Below N a (w.setRow b D) :=
  ⟨h.os, h.tape, h.output, by rw [setRow_size]; exact h.size, fun k hk => (setRow_other w b k D (by omega)).trans (h.block k hk)⟩
theorem pg_zero : pgVals RedoM.zero = Tab 40 fun _ => .int .i64 0 := by
  unfold pgVals
  exact Tab_congr (fun j _ => by split <;> rfl)

/-- Pages' state in memory. -/
structure RedoPW (w : World) (Ba Bs Bo : Nat) (at_ : Int → Int) (p : Int → PageM) (wr : World) : Prop where
  at_ : Blk wr Ba 23 (i20Vals at_)
  res : Blk wr Bs 28 (pgVals RedoM.zero)
  out : Blk wr Bo 28 (pgVals p)
  below : Below w.heap.size w wr
theorem RedoPW.alloc {w wr : World} {Ba Bs Bo : Nat} {at_ : Int → Int} {p : Int → PageM} (h : RedoPW w Ba Bs Bo at_ p wr) (o : Obj) : RedoPW w Ba Bs Bo at_ p (wr.alloc o) := ⟨h.at_.alloc o, h.res.alloc o, h.out.alloc o, h.below.alloc h.below.size o⟩
theorem RedoPW.after {w wr wx : World} {Ba Bs Bo : Nat} {at_ : Int → Int} {p : Int → PageM} (h : RedoPW w Ba Bs Bo at_ p wr) (hb : Below wr.heap.size wr wx) : RedoPW w Ba Bs Bo at_ p wx := ⟨h.at_.after hb, h.res.after hb, h.out.after hb, below_tr h.below hb⟩

set_option maxRecDepth 100000 in
set_option maxHeartbeats 8000000 in
theorem redoPages_any (l : List RecM) (at_ : Int → Int) (c : Int) (hc : RedoM.check l = c) (p : Int → PageM) (hp : p = if c = 0 then RedoM.pages l at_ else RedoM.zero) (ao : Option Addr) (cap : Nat) (w : World) (h : RecsAt w ao l) (hn : l.length ≤ 9000000000000000) :
    Calls Try.prog 10 #[.slice ao l.length cap, .agg (i20Vals at_).toArray] w fun e w' => e = .returned (.tuple #[.agg (pgVals p).toArray, .int .i64 c]) ∧ Below w.heap.size w w' := by
  have Hc := box hc; have Hp := box hp
  have HC := box (fun W (hb : Below w.heap.size w W) => redoCheck_any l ao cap W (h.below hb (Nat.le_refl _)) hn)
  have H := box h
  rw [hc] at HC
  clear h hc hp
  obtain ⟨N, HN⟩ : ∃ N, Box (l.length = N) := ⟨_, ⟨rfl⟩⟩
  rw [HN.out] at HC ⊢
  obtain ⟨A, HA⟩ : ∃ A, Box ((i20Vals at_).toArray = A) := ⟨_, ⟨rfl⟩⟩
  rw [HA.out]
  go_enter Try.func10, Try.ntmps10
  go_upto_region 2 with (fail)
  refine name_world (fun W => RedoPW w w.heap.size (w.heap.size + 1) (w.heap.size + 2) at_ RedoM.zero W) ⟨?_, ?_, ?_, ?_⟩ ?_
  · rw [← HA.out]; exact ((Blk.new w (i20Vals at_) _).alloc _).alloc _
  · rw [pg_zero]; exact (Blk.new' (by simp) (Tab 40 fun _ => .int .i64 0) _).alloc _
  · rw [pg_zero]; exact Blk.new' (by simp) (Tab 40 fun _ => .int .i64 0) _
  · exact (((Below.refl _ _).alloc (Nat.le_refl _) _).alloc (by simp) _).alloc (by simp; omega) _
  rintro W hW
  obtain ⟨Ba, HBa⟩ : ∃ x, Box (w.heap.size = x) := ⟨_, ⟨rfl⟩⟩
  obtain ⟨Bs, HBs⟩ : ∃ x, Box (w.heap.size + 1 = x) := ⟨_, ⟨rfl⟩⟩
  obtain ⟨Bo, HBo⟩ : ∃ x, Box (w.heap.size + 2 = x) := ⟨_, ⟨rfl⟩⟩
  rw [HBo.out, HBs.out] at hW ⊢
  have hW : RedoPW w Ba Bs Bo at_ RedoM.zero W := by rw [← HBa.out]; exact hW
  rw [HBa.out]
  have HW := box hW
  clear hW
  have hbs : w.heap.size ≤ Bs := by have := HBs.out; omega
  have hbo : w.heap.size ≤ Bo := by have := HBo.out; omega
  have hso : Bs ≠ Bo := by have := HBs.out; have := HBo.out; omega
  have hao : Ba ≠ Bo := by have := HBa.out; have := HBo.out; omega
  go_wp2_with fail
  refine (HC.out W HW.out.below).mono ?_
  rintro e w1 ⟨rfl, hb1⟩
  have HW1 := box (HW.out.after hb1)
  clear hb1 HW
  by_cases hchk : c = 0
  case neg =>
    have d0 : (c == 0) = false := by simpa using hchk
    have d1 : (c != 0) = true := by simpa using hchk
    have hpz := Hp.out
    rw [if_neg hchk] at hpz
    clear Hp
    subst hpz
    clear hchk
    obtain ⟨Z, HZ⟩ : ∃ Z, Box (pgVals RedoM.zero = Z) := ⟨_, ⟨rfl⟩⟩
    have hsz : (Try.prog.info? 28).map (·.size) = some Z.toArray.size := by rw [← HZ.out]; exact pg_size _
    have hone : Z.toArray.all (·.oneCell') = true := by rw [← HZ.out]; exact pg_one _
    have hR := HW1.out.res
    have hO := HW1.out.out
    rw [HZ.out] at hR hO
    have HR := box hR; have HO := box hO
    clear hR hO
    go_wp2_with (first | (refine wpList_load_row rfl 28 (.tmp 6) rfl Bo (by rfl) 28 _ (0, 0) _ HO.out Try.underlying28 rfl hsz ?_) | (refine wpList_store_row rfl 28 (.tmp 4) (.tmp 14) rfl Bs Z.toArray (by rfl) (by rfl) 28 _ HR.out hsz rfl hone ?_))
    have hR2 := HR.out.row Z
    have hlv := run_loadVar_row (P := Try.prog) (w1.setRow Bs Z.toArray) Bs 28 28 Z.toArray (0, 0) _ hR2 Try.underlying28 rfl hsz
    refine bodyPost_ret (v := .tuple #[.agg Z.toArray, .int .i64 c]) (by simp [results, Try.results10, asAddr, hlv]) rfl ⟨by rw [HZ.out], belowSetRow HW1.out.below hbs _⟩
  subst hchk
  rw [if_pos rfl] at Hp
  have hgo : RedoM.go RedoM.St.init l = 0 ∧ l.length ≤ 400 := by
    have h := Hc.out
    unfold RedoM.check at h
    split at h
    · omega
    · exact ⟨h, by omega⟩
  have HI := box (RedoM.inv_of l hgo.1)
  have hN4 : N ≤ 400 := by have := HN.out; omega
  have HP0 : Box (RedoM.pages (l.take 0) at_ = RedoM.zero) := ⟨rfl⟩
  clear hgo
  go_wp2_with fail
  go_loopw [18] (fun t18 wr => ∃ k : Nat, k ≤ N ∧ t18 = .int .i64 (k : Int) ∧ Box (RedoPW w Ba Bs Bo at_ (RedoM.pages (l.take k) at_) wr)) (fun t18 _ => N - (intOf t18).toNat)
  case atStart => exact ⟨0, Nat.zero_le _, rfl, by rw [HP0.out]; exact HW1⟩
  case round =>
    obtain ⟨k, hk, rfl, HR⟩ := hrel
    by_cases hlt : k < N
    case neg =>
      have hkn : k = N := by omega
      subst hkn
      rw [List.take_of_length_le (by have := HN.out; omega), ← Hp.out] at HR
      obtain ⟨Z, HZ⟩ : ∃ Z, Box (pgVals p = Z) := ⟨_, ⟨rfl⟩⟩
      have hsz : (Try.prog.info? 28).map (·.size) = some Z.toArray.size := by rw [← HZ.out]; exact pg_size _
      have hone : Z.toArray.all (·.oneCell') = true := by rw [← HZ.out]; exact pg_one _
      have hR := HR.out.res
      have hO := HR.out.out
      rw [HZ.out] at hO
      have hlen : (pgVals RedoM.zero).toArray.size = Z.toArray.size := by rw [← HZ.out, List.size_toArray, List.size_toArray, pgVals_len, pgVals_len]
      have HRs := box hR; have HO := box hO
      clear hR hO
      go_wp2_with (first | (refine wpList_load_row rfl 28 (.tmp 6) rfl Bo (by rfl) 28 _ (0, 0) _ HO.out Try.underlying28 rfl hsz ?_) | (refine wpList_store_row rfl 28 (.tmp 4) (.tmp 43) rfl Bs Z.toArray (by rfl) (by rfl) 28 _ HRs.out hsz hlen hone ?_))
      have hR2 := HRs.out.row Z
      have hlv := run_loadVar_row (P := Try.prog) (wr.setRow Bs Z.toArray) Bs 28 28 Z.toArray (0, 0) _ hR2 Try.underlying28 rfl hsz
      refine bodyPost_ret (v := .tuple #[.agg Z.toArray, .int .i64 0]) (by simp [results, Try.results10, asAddr, hlv]) rfl ⟨by rw [HZ.out], belowSetRow HR.out.below hbs _⟩
    have hkl : k < l.length := by have := HN.out; omega
    obtain ⟨b, off, rfl, hb, hrow⟩ := (H.out.below HR.out.below (Nat.le_refl _)).resolve_left (by intro h; rw [h] at hkl; simp at hkl)
    obtain ⟨c0, c1, c2, c3, c4⟩ := hrow k hkl
    have HPs : Box (RedoM.pages (l.take (k + 1)) at_ = if l[k].kind = 1 ∧ (k : Int) < at_ l[k].item then RedoM.upI (RedoM.pages (l.take k) at_) l[k].item ⟨l[k].new, (k : Int) + 1⟩ else RedoM.pages (l.take k) at_) := ⟨by
      rw [List.take_succ_eq_append_getElem hkl, RedoM.pages_snoc, List.length_take, Nat.min_eq_left (by omega)]⟩
    have hir := HI.out.item l[k] (List.getElem_mem hkl)
    generalize l[k] = r at *
    obtain ⟨kd, tx, it, od, nw⟩ := r
    dsimp only at c0 c1 c2 c3 c4 hir HPs
    obtain ⟨i, hi⟩ := Int.eq_ofNat_of_zero_le hir.1
    subst hi
    have hi20 : i < 20 := by omega
    have hii : (i : Int) < 20 := by omega
    clear hrow hir
    go_upto_region 8 with (fail)
    refine name_world (fun X => RedoPW w Ba Bs Bo at_ (RedoM.pages (l.take k) at_) X ∧ Blk X wr.heap.size 25 (RecM.vals ⟨kd, tx, (i : Int), od, nw⟩)) ⟨HR.out.alloc _, Blk.new _ _ _⟩ ?_
    rintro X ⟨hX, hr⟩
    obtain ⟨Br, HBr⟩ : ∃ x, Box (wr.heap.size = x) := ⟨_, ⟨rfl⟩⟩
    rw [HBr.out] at hr ⊢
    have HX := box hX
    have y0 := hr.cell (i := 0) rfl
    have y2 := hr.cell (i := 2) rfl
    have y4 := hr.cell (i := 4) rfl
    dsimp only at y0 y2 y4
    have z1 := hX.at_.tabCell hi20
    obtain ⟨z2, z3⟩ := pg_at hX.out hi20
    have f2 := hX.out.frozen (i * 2)
    have f3 := hX.out.frozen (i * 2 + 1)
    have w1' : IntKind.i64.wrap ((k : Int) + 1) = (k : Int) + 1 := IntWalk.i64_in _ (by omega)
    obtain ⟨av, HAv⟩ : ∃ x, Box (at_ (i : Int) = x) := ⟨_, ⟨rfl⟩⟩
    rw [HAv.out] at z1 HPs
    clear hX hr c0 c1 c2 c3 c4 HR
    by_cases hk1 : kd = 1
    · have q1 : (kd == 1) = true := by simpa using hk1
      by_cases hlt2 : (k : Int) < av
      · have q2 : decide ((k : Int) < av) = true := decide_eq_true hlt2
        have HW9 : Box (RedoPW w Ba Bs Bo at_ (RedoM.pages (l.take (k + 1)) at_) ((X.setCell ⟨Bo, i * 2, none⟩ (.int .i64 nw)).setCell ⟨Bo, i * 2 + 1, none⟩ (.int .i64 ((k : Int) + 1)))) := ⟨by
          rw [HPs.out, if_pos ⟨hk1, hlt2⟩]
          exact ⟨(HX.out.at_.other hao _).other hao _, (HX.out.res.other hso _).other hso _, pg_set HX.out.out i _ _, (HX.out.below.setCell hbo _).setCell hbo _⟩⟩
        clear hk1 hlt2
        go_wp2_with fail
        go_roundw
        case rel => exact ⟨k + 1, hlt, by go_num, HW9⟩
        case measure => simp [intOf]; omega
      · have q2 : decide ((k : Int) < av) = false := decide_eq_false hlt2
        have HW9 : Box (RedoPW w Ba Bs Bo at_ (RedoM.pages (l.take (k + 1)) at_) X) := ⟨by
          rw [HPs.out, if_neg (fun h => hlt2 h.2)]; exact HX.out⟩
        clear hk1 hlt2
        go_wp2_with fail
        go_roundw
        case rel => exact ⟨k + 1, hlt, by go_num, HW9⟩
        case measure => simp [intOf]; omega
    · have q1 : (kd == 1) = false := by simpa using hk1
      have HW9 : Box (RedoPW w Ba Bs Bo at_ (RedoM.pages (l.take (k + 1)) at_) X) := ⟨by
        rw [HPs.out, if_neg (fun h => hk1 h.1)]; exact HX.out⟩
      clear hk1
      go_wp2_with fail
      go_roundw
      case rel => exact ⟨k + 1, hlt, by go_num, HW9⟩
      case measure => simp [intOf]; omega
end Go.Proofs.Ytfmgncfikaefhaa
