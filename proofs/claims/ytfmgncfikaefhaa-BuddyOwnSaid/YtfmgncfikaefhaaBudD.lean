/- buddy.Drop: what it leaves. -/
import Derived.Test.YtfmgncfikaefhaaBudX
import Derived.Test.YtfmgncfikaefhaaBudT
import Derived.Deep.RegionHeld3
import Derived.Deep.AppendLies
namespace Go.Proofs.Ytfmgncfikaefhaa
open Go.RowKit Go.Lib

set_option maxRecDepth 20000 in
set_option maxHeartbeats 1000000 in
theorem budDrop_tells (at_ : Int) (C : Nat) (W : World) (hc : W.cell? ⟨C, 0, none⟩ = some (.int .i64 at_)) (hC : C < W.heap.size) (o : BkM) :
    TellsBk 56 #[.pointer (some ⟨C, 0, none⟩)] (fun x => x.at_ == at_) W o := by
  obtain ⟨a, r⟩ := o
  have hB := box ((Below.refl W.heap.size W).alloc (Nat.le_refl _) (.cells #[.int .i64 a, .int .i64 r] 73))
  have hc2 : (W.alloc (.cells #[.int .i64 a, .int .i64 r] 73)).cell? ⟨C, 0, none⟩ = some (.int .i64 at_) := (hB.out.cell (p := ⟨C, 0, none⟩) hC).trans hc
  unfold TellsBk
  dsimp only
  obtain ⟨y, HY⟩ : ∃ y, Box ((a == at_) = y) := ⟨_, ⟨rfl⟩⟩
  rw [HY.out]
  have q := HY.out
  go_enter Try.func56, Try.ntmps56
  go_wp2_with fail
  go_ret
  exact ⟨rfl, hB.out⟩
/-- What Drop leaves. -/
def BudM.DropPost (n at_ : Int) (T : List BkM) (w : World) (e : Ending) (w' : World) : Prop :=
  Below w.heap.size w w' ∧
    ((∃ c : Int, c ≠ 0 ∧ e = .returned (.tuple #[.agg #[.int .i64 0, .slice none 0 0], .int .i64 c]) ∧ (BudM.check n T = 0 → ∀ x ∈ T, x.at_ ≠ at_)) ∨
     (BudM.check n T = 0 ∧ ∃ i : Nat, i < T.length ∧ T.findIdx (fun x => x.at_ == at_) = i ∧ ∃ g cap : Nat, e = .returned (.tuple #[.agg #[.int .i64 n, .slice (some ⟨g, 0, none⟩) (T.eraseIdx i).length cap], .int .i64 0]) ∧
        BksAt w' (some ⟨g, 0, none⟩) (T.eraseIdx i) ∧ w.heap.size ≤ g ∧ g < w'.heap.size))
theorem BksAt.other {w : World} {b off : Nat} {l : List BkM} (h : BksAt w (some ⟨b, off, none⟩) l) {p : Addr} (hp : b ≠ p.block) (v : Value) : BksAt (w.setCell p v) (some ⟨b, off, none⟩) l := by
  rcases h with h | ⟨b', off', h1, h2, h3⟩
  · exact Or.inl h
  · injection h1 with h1
    injection h1 with h1 h4
    subst h1 h4
    refine Or.inr ⟨_, _, rfl, by rw [World.size_setCell]; exact h2, fun k hk => ?_⟩
    rw [World.cell?_of_block (Below.heap_setCell _ _ _ _ hp), World.cell?_of_block (Below.heap_setCell _ _ _ _ hp)]
    exact h3 k hk
theorem own_bounds {w : World} {base e n size cap : Nat} {ao : Option Addr} {xs : List Value} (h : w.ownsRow base e size (.slice ao n cap) n xs) (hn : 0 < n) : ∃ g, ao = some ⟨g, 0, none⟩ ∧ base ≤ g ∧ g < w.heap.size ∧ n ≤ cap ∧ cap ≤ maxLen := by
  rcases h.2 with ⟨h1, h2⟩ | ⟨g, cap', cur, h1, h2, h3, h4, h5, _⟩
  · omega
  · simp only [Value.slice.injEq, true_and] at h1
    obtain ⟨rfl, rfl⟩ := h1
    exact ⟨g, rfl, h2, (Array.getElem?_eq_some_iff.1 h3).1, h4, h5⟩
theorem BksM.find_none {p : BkM → Bool} {l : List BkM} (h : BksM.find p l = -1) : ∀ x ∈ l, p x = false := by
  unfold BksM.find at h
  split at h
  · omega
  · rename_i h1
    have h2 : l.findIdx p = l.length := by have := List.findIdx_le_length (p := p) (xs := l); omega
    rw [List.findIdx_eq_length] at h2
    exact fun x hx => by simpa using h2 x hx

set_option maxRecDepth 20000 in
set_option maxHeartbeats 8000000 in
theorem budDrop_any (n at_ : Int) (T : List BkM) (ao : Option Addr) (cap : Nat) (w : World) (h : BksAt w ao T) (hnil : ao = none → cap = 0) (hT : T.length ≤ 9000000000000) :
    Calls Try.prog 31 #[.agg #[.int .i64 n, .slice ao T.length cap], .int .i64 at_] w (BudM.DropPost n at_ T w) := by
  have H := box h; have Hnil := box hnil
  clear h hnil
  go_enter Try.func31, Try.ntmps31
  go_upto_region 1 with (fail)
  refine name_world (fun W => Below w.heap.size w W ∧ Blk W w.heap.size 69 [.int .i64 n, .slice ao T.length cap] ∧ Blk W (w.heap.size + 1) 3 [.int .i64 at_] ∧ Blk W (w.heap.size + 2) 69 [.int .i64 0, .slice none 0 0]) ⟨(((Below.refl _ w).alloc (Nat.le_refl _) _).alloc (by simp) _).alloc (by simp; omega) _, ((Blk.new _ _ _).alloc _).alloc _, (Blk.new' (by simp) _ _).alloc _, Blk.new' (by simp) _ _⟩ ?_
  rintro W ⟨hb, hp, ha, hr⟩
  have HB := box hb; have HP := box hp; have HA := box ha; have HR := box hr
  have p0 := hp.cell (i := 0) rfl
  have p1 := hp.cell (i := 1) rfl
  have hs := hb.size
  have hr2 := hr.lt
  clear hb hp hr ha
  go_wp2_with fail
  refine (budCheck_any n T ao cap _ (H.out.below HB.out (Nat.le_refl _)) (by omega)).mono ?_
  rintro e w1 ⟨rfl, hb1⟩
  have HB1 := box (HB.out.trans (hb1.mono hs))
  have HP1 := box (HP.out.after hb1)
  have HA1 := box (HA.out.after hb1)
  have HR1 := box (HR.out.after hb1)
  have hBs : Box (∀ wx, Below w.heap.size w wx → ∀ i u, Below w.heap.size w (wx.setCell ⟨w.heap.size + 2, i, none⟩ u)) := ⟨fun wx hx i u => hx.setCell (by simp) u⟩
  have hs1 := HB1.out.size
  clear hb1 p0 p1
  have HErr : Box (∀ (wx : World) (c : Int), Below w.heap.size w wx → c ≠ 0 → (BudM.check n T = 0 → ∀ x ∈ T, x.at_ ≠ at_) → BudM.DropPost n at_ T w (.returned (.tuple #[.agg #[.int .i64 0, .slice none 0 0], .int .i64 c])) wx) := ⟨fun wx c hb h0 h8 => ⟨hb, Or.inl ⟨c, h0, rfl, h8⟩⟩⟩
  obtain ⟨c, HC⟩ : ∃ c, Box (BudM.check n T = c) := ⟨_, ⟨rfl⟩⟩
  rw [HC.out] at HErr ⊢
  by_cases hc : c = 0
  case neg =>
    have g1 : (c == 0) = false := by simpa using hc
    have g2 : (c != 0) = true := by simpa using hc
    have hr0 := HR1.out.cell (i := 0) rfl
    have hr1 := HR1.out.cell (i := 1) rfl
    have hf0 := HR1.out.frozen 0
    have hf1 := HR1.out.frozen 1
    have HF := box (HErr.out _ c (hBs.out _ (hBs.out _ HB1.out 0 (.int .i64 0)) 1 (.slice none 0 0)) hc (fun h => absurd h hc))
    clear hc
    go_wp2_with fail
    refine bodyPost_ret (v := .tuple #[.agg #[.int .i64 0, .slice none 0 0], .int .i64 c]) (by simp [results, Try.results31, go_sem, hr0, hr1]) rfl HF.out
  subst hc
  have p0 := HP1.out.cell (i := 0) rfl
  have p1 := HP1.out.cell (i := 1) rfl
  have HTl : Box (∀ W, Below w1.heap.size w1 W → ∀ o ∈ T, TellsBk 56 #[.pointer (some ⟨w.heap.size + 1, 0, none⟩)] (fun x => x.at_ == at_) W o) := ⟨fun W hW o _ => budDrop_tells at_ _ W ((HA1.out.after hW).cell rfl) (HA1.out.after hW).lt o⟩
  go_wp2_with fail
  refine (indexFunc_bks T ao cap 56 #[.pointer (some ⟨w.heap.size + 1, 0, none⟩)] (fun x => x.at_ == at_) _ (H.out.below HB1.out (Nat.le_refl _)) (by omega) HTl.out (enters_fn Try.func56 (by kernel_rfl) rfl)).mono ?_
  rintro e w2 ⟨rfl, hb2⟩
  have HB2 := box (HB1.out.trans (hb2.mono hs1))
  have HP2 := box (HP1.out.after hb2)
  have HR2 := box (HR1.out.after hb2)
  have hs2 := HB2.out.size
  clear hb2 p0 p1
  have hr0 := HR2.out.cell (i := 0) rfl
  have hr1 := HR2.out.cell (i := 1) rfl
  have hf0 := HR2.out.frozen 0
  have hf1 := HR2.out.frozen 1
  by_cases hfi : T.findIdx (fun x => x.at_ == at_) < T.length
  case neg =>
    have hm : BksM.find (fun x => x.at_ == at_) T = -1 := if_neg hfi
    have HF := box (HErr.out _ 6 (hBs.out _ (hBs.out _ HB2.out 0 (.int .i64 0)) 1 (.slice none 0 0)) (by decide) (fun _ x hx => by simpa using BksM.find_none hm x hx))
    rw [hm]
    clear hm hfi
    go_wp2_with fail
    refine bodyPost_ret (v := .tuple #[.agg #[.int .i64 0, .slice none 0 0], .int .i64 6]) (by simp [results, Try.results31, go_sem, hr0, hr1]) rfl HF.out
  have hm : BksM.find (fun x => x.at_ == at_) T = (T.findIdx (fun x => x.at_ == at_) : Int) := if_pos hfi
  rw [hm]
  obtain ⟨i, HI⟩ : ∃ i, Box (T.findIdx (fun x => x.at_ == at_) = i) := ⟨_, ⟨rfl⟩⟩
  rw [HI.out] at hfi ⊢
  clear hm HErr
  have HOk : Box (∀ (wx : World) (g gc : Nat), Below w.heap.size w wx → BksAt wx (some ⟨g, 0, none⟩) (T.eraseIdx i) → w.heap.size ≤ g → g < wx.heap.size → BudM.DropPost n at_ T w (.returned (.tuple #[.agg #[.int .i64 n, .slice (some ⟨g, 0, none⟩) (T.eraseIdx i).length gc], .int .i64 0])) wx) := ⟨fun wx g gc hb ha hg hl => ⟨hb, Or.inr ⟨HC.out, i, hfi, HI.out, g, gc, rfl, ha, hg, hl⟩⟩⟩
  have p0 := HP2.out.cell (i := 0) rfl
  have p1 := HP2.out.cell (i := 1) rfl
  have hd0 : decide ((i : Int) < 0) = false := decide_eq_false (by omega)
  have hwi : IntKind.i64.wrap ((i : Int) + 1) = (i : Int) + 1 := by simp [IntKind.wrap, IntKind.bits, IntKind.signed]; omega
  have hT10 : T.length ≤ 1024 := BudM.len_of HC.out
  have HCl := box (clone_bks T ao cap w2.drew (H.out.below HB2.out.drew (Nat.le_refl _)) Hnil.out (by omega))
  have HPw := box (fun wx (hx : Below w2.heap.size w2 wx) => HP2.out.after hx)
  have hTp : 0 < T.length := by omega
  go_upto_region 7 with (fail)
  go_region_held3 (fun w' => w'.cell? ⟨w.heap.size, 0, none⟩ = some (.int .i64 n) ∧ w'.cell? ⟨w.heap.size, 1, none⟩ = some (.slice ao T.length cap)) (first | exact ⟨p0, p1⟩ | assumption | exact HSet.out _ _)
    (first
      | (go_at_call 57; have _q := HX3; refine (delete_bks T i c3 g3 w2.drew.heap.size w3 HX3.out hfi hnc (by unfold maxLen at hcm; omega)).mono ?_; rintro e w4 ⟨rfl, hat4, hgr4⟩; have HAT4 := box hat4; have HP4 := box ((hp3.drew.grown hgr4 (Blk.ne_own (w := w3) hp3 HX3.out (by decide)))); have HR4 := box (((HR2.out.drew.after HB3d.out).drew.grown hgr4 (Blk.ne_own (w := w3) (HR2.out.drew.after HB3d.out) HX3.out (by decide)))); have HB4 := box (Below.grown (HB3.out.drew) hgr4 (by first | exact HB3.out.size | (have := HB3.out.size; simpa using this)) (fun j hj => by injection hj with hj; subst hj; exact Nat.le_trans (by simp) hg3)); have q0 := HP4.out.cell (i := 0) rfl; have q1 := HP4.out.cell (i := 1) rfl; have hh4 : w4.cell? ⟨w.heap.size, 0, none⟩ = some (.int .i64 n) ∧ w4.cell? ⟨w.heap.size, 1, none⟩ = some (.slice ao T.length cap) := ⟨q0, q1⟩; have r0 := HR4.out.cell (i := 0) rfl; have r1 := HR4.out.cell (i := 1) rfl; have s0 := HR4.out.frozen 0; have s1 := HR4.out.frozen 1; have HG4 : Box (w3.heap.size ≤ w4.heap.size) := ⟨by have := hgr4.size; simpa using this⟩; have HSet : Box (∀ u v, ((w4.setCell ⟨w.heap.size + 1 + 1, 0, none⟩ u).setCell ⟨w.heap.size + 1 + 1, 1, none⟩ v).cell? ⟨w.heap.size, 0, none⟩ = some (.int .i64 n) ∧ ((w4.setCell ⟨w.heap.size + 1 + 1, 0, none⟩ u).setCell ⟨w.heap.size + 1 + 1, 1, none⟩ v).cell? ⟨w.heap.size, 1, none⟩ = some (.slice ao T.length cap)) := ⟨fun u v => ⟨((HP4.out.other (p := ⟨w.heap.size + 1 + 1, 0, none⟩) (by simp; omega) u).other (p := ⟨w.heap.size + 1 + 1, 1, none⟩) (by simp; omega) v).cell (i := 0) rfl, ((HP4.out.other (p := ⟨w.heap.size + 1 + 1, 0, none⟩) (by simp; omega) u).other (p := ⟨w.heap.size + 1 + 1, 1, none⟩) (by simp; omega) v).cell (i := 1) rfl⟩⟩; clear hat4 hgr4 hp3)
      | (go_at_call 34; refine HCl.out.mono ?_; rintro e w3 ⟨⟨v3, rfl, hown3⟩, hb3⟩; obtain ⟨vo3, c3, rfl, hln3, _, _, _⟩ := BksAt.own hown3; clear hln3; obtain ⟨g3, rfl, hg3, hg3l, hnc, hcm⟩ := own_bounds hown3 hTp; have HX3 := box hown3; have HB3d := box hb3; have HB3 := box (below_tr (Below.refl _ w2).drew hb3); have hp3 := HPw.out w3 HB3.out; have q0 := hp3.cell (i := 0) rfl; have q1 := hp3.cell (i := 1) rfl; have hh : w3.cell? ⟨w.heap.size, 0, none⟩ = some (.int .i64 n) ∧ w3.cell? ⟨w.heap.size, 1, none⟩ = some (.slice ao T.length cap) := ⟨q0, q1⟩; clear hown3 hb3)
      | fail)
  have hgne : g3 ≠ w.heap.size + 1 + 1 := by
    have h1 := HR2.out.lt
    have h2 : w2.heap.size ≤ g3 := by simpa using hg3
    omega
  have HF4 := box (HAT4.out.other (p := ⟨w.heap.size + 1 + 1, 0, none⟩) hgne (.int .i64 n) |>.other (p := ⟨w.heap.size + 1 + 1, 1, none⟩) hgne (.slice (some ⟨g3, 0, none⟩) (T.eraseIdx i).length c3))
  have HRs := box ((HR4.out.set 0 (.int .i64 n)).set 1 (.slice (some ⟨g3, 0, none⟩) (T.eraseIdx i).length c3))
  have z0 := HRs.out.cell (i := 0) rfl
  have z1 := HRs.out.cell (i := 1) rfl
  have HBf := box (hBs.out _ (hBs.out _ (HB2.out.trans (HB4.out.mono hs2)) 0 (.int .i64 n)) 1 (.slice (some ⟨g3, 0, none⟩) (T.eraseIdx i).length c3))
  have hgf : g3 < ((w4.setCell ⟨w.heap.size + 1 + 1, 0, none⟩ (.int .i64 n)).setCell ⟨w.heap.size + 1 + 1, 1, none⟩ (.slice (some ⟨g3, 0, none⟩) (T.eraseIdx i).length c3)).heap.size := by
    rw [World.size_setCell, World.size_setCell]
    have h1 := HB4.out.size
    rcases HAT4.out with h | ⟨b, off, h, hl, _⟩
    · exact Nat.lt_of_lt_of_le hg3l HG4.out
    · injection h with h; injection h with h; subst h; exact hl
  have HGf := box hgf
  have hwg : w.heap.size ≤ g3 := by
    have h2 : w2.heap.size ≤ g3 := by simpa using hg3
    omega
  clear hgf
  go_step
  go_wp2_with fail
  refine bodyPost_ret (v := .tuple #[.agg #[.int .i64 n, .slice (some ⟨g3, 0, none⟩) (T.eraseIdx i).length c3], .int .i64 0]) (by simp [results, Try.results31, go_sem, z0, z1]) rfl (HOk.out _ g3 c3 HBf.out HF4.out hwg HGf.out)
end Go.Proofs.Ytfmgncfikaefhaa
