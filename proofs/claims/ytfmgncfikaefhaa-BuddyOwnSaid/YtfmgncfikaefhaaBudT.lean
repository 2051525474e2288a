/- buddy.Take: what it leaves. -/
import Derived.Test.YtfmgncfikaefhaaBudS
import Derived.Test.YtfmgncfikaefhaaBudX
import Derived.Test.YtfmgncfikaefhaaBudM2
import Derived.Test.YtfmgncfikaefhaaSnapC
import Derived.Test.YtfmgncfikaefhaaDagV
import Derived.Deep.RegionHeld3
import Derived.Deep.RegionLaw
import Derived.Deep.AppendLies
import Derived.Deep.DeepMust
namespace Go.Proofs.Ytfmgncfikaefhaa
open Go.RowKit Go.Lib

theorem BudM.len_of {n : Int} {T : List BkM} (h : BudM.check n T = 0) : T.length ≤ 1024 := by
  obtain ⟨m, _, hm, hf, hd⟩ := BudM.check_ok h
  have h1 := BudM.sorted_len T 0 (fun x hx => ⟨hf x hx, (hf x hx).2.2.1⟩) hd (by have := BudM.pow_pos m; omega)
  have h2 : (2 : Int) ^ m ≤ 1024 := BudM.pow_hi hm
  omega
/-- The best of the first j. -/
def BudM.bestAt (k : Int) (l : List BkM) : Nat → Int
  | 0 => -1
  | j + 1 => if k ≤ (l.getD j default).ord ∧ (BudM.bestAt k l j < 0 ∨ (l.getD j default).ord < (l.getD (BudM.bestAt k l j).toNat default).ord) then (j : Int) else BudM.bestAt k l j
theorem BudM.bestAt_ok (k : Int) (l : List BkM) : ∀ j, j ≤ l.length → (BudM.bestAt k l j = -1 ∧ ∀ i, i < j → (l.getD i default).ord < k) ∨ (∃ b : Nat, BudM.bestAt k l j = b ∧ b < j ∧ k ≤ (l.getD b default).ord)
  | 0, _ => Or.inl ⟨rfl, fun i h => by omega⟩
  | j + 1, hj => by
    have ih := BudM.bestAt_ok k l j (by omega)
    unfold BudM.bestAt
    split
    · rename_i h
      exact Or.inr ⟨j, rfl, by omega, h.1⟩
    · rename_i h
      rcases ih with ⟨h1, h2⟩ | ⟨b, h1, h2, h3⟩
      · left
        refine ⟨h1, fun i hi => ?_⟩
        by_cases e : i = j
        · subst e
          have : ¬ k ≤ (l.getD i default).ord := fun h5 => h ⟨h5, Or.inl (by omega)⟩
          omega
        · exact h2 i (by omega)
      · exact Or.inr ⟨b, h1, by omega, h3⟩
/-- What Take leaves. -/
def BudM.TakePost (n k : Int) (T : List BkM) (w : World) (e : Ending) (w' : World) : Prop :=
  Below w.heap.size w w' ∧
    ((∃ c : Int, c ≠ 0 ∧ e = .returned (.tuple #[.agg #[.int .i64 0, .slice none 0 0], .int .i64 0, .int .i64 c]) ∧ (c = 8 → ∀ y ∈ BudM.free n.toNat T 0, y.ord < k) ∧ (BudM.check n T = 0 → 0 ≤ k → k ≤ n → ∀ y ∈ BudM.free n.toNat T 0, y.ord < k)) ∨
     (BudM.check n T = 0 ∧ 0 ≤ k ∧ ∃ y ∈ BudM.free n.toNat T 0, k ≤ y.ord ∧ ∃ (T' : List BkM) (g cap : Nat), e = .returned (.tuple #[.agg #[.int .i64 n, .slice (some ⟨g, 0, none⟩) T'.length cap], .int .i64 y.at_, .int .i64 0]) ∧
        T'.Perm (T ++ [⟨y.at_, k⟩]) ∧ T'.Pairwise (fun x y => x.at_ ≤ y.at_) ∧ w'.ownsRow w.heap.size 73 2 (.slice (some ⟨g, 0, none⟩) T'.length cap) T'.length (bkVals T') ∧ g < w'.heap.size))

/-- In the middle of the statement that lays the new row. -/
structure BudM.TakeS (n k : Int) (T : List BkM) (y : BkM) (wr : World) (f4 f12 f13 f14 f15 f16 : Bool) (v4 v12 v13 v14 v15 : Value) (wx : World) : Prop where
  below : Below wr.heap.size wr wx
  own4 : f4 = true → f13 = false → wx.ownsRow wr.heap.size 73 2 v4 T.length (bkVals T)
  lit : f12 = true → f13 = false → ∃ b, v12 = .slice (some ⟨b, 0, none⟩) 1 1 ∧ wr.heap.size ≤ b ∧ Blk wx b 73 [.int .i64 y.at_, .int .i64 k]
  own13 : f13 = true → wx.ownsRow wr.heap.size 73 2 v13 (T.length + 1) (bkVals (T ++ [⟨y.at_, k⟩]))
  agg : f14 = true → v14 = .agg #[.int .i64 n, v13]
  st : f15 = true → ∃ B, v15 = .pointer (some ⟨B, 0, none⟩) ∧ wr.heap.size ≤ B ∧ Blk wx B 69 (if f16 = true then [.int .i64 n, v13] else [.int .i64 0, .slice none 0 0])
section
variable {n k : Int} {T : List BkM} {y : BkM} {wr : World} {f4 f12 f13 f14 f15 f16 : Bool} {v4 v12 v13 v14 v15 : Value} {wx w' : World}
theorem BudM.TakeS.call {v : Value} (h : BudM.TakeS n k T y wr f4 f12 false f14 f15 f16 v4 v12 v13 v14 v15 wx) (ho : w'.ownsRow wx.heap.size 73 2 v T.length (bkVals T)) (hb : Below wx.heap.size wx w') : BudM.TakeS n k T y wr true f12 false f14 f15 f16 v v12 v13 v14 v15 w' :=
  ⟨h.below.trans (hb.mono h.below.size), fun _ _ => ownsRow_mono ho h.below.size, fun a b => (by obtain ⟨q, h1, h2, h3⟩ := h.lit a b; exact ⟨q, h1, h2, h3.after hb⟩), (fun a => by cases a), h.agg, fun a => by obtain ⟨q, h1, h2, h3⟩ := h.st a; exact ⟨q, h1, h2, h3.after hb⟩⟩
theorem BudM.TakeS.lay (h : BudM.TakeS n k T y wr f4 f12 f13 f14 f15 f16 v4 v12 v13 v14 v15 wx) : BudM.TakeS n k T y wr f4 true f13 f14 f15 f16 v4 (.slice (some ⟨wx.heap.size, 0, none⟩) 1 1) v13 v14 v15 (wx.alloc (.cells #[.int .i64 y.at_, .int .i64 k] 73)) :=
  ⟨h.below.alloc h.below.size _, fun a b => (h.own4 a b).alloc _, fun _ _ => ⟨_, rfl, h.below.size, Blk.new _ _ _⟩, fun a => (h.own13 a).alloc _, h.agg, fun a => by obtain ⟨q, h1, h2, h3⟩ := h.st a; exact ⟨q, h1, h2, h3.alloc _⟩⟩
theorem BudM.TakeS.made (h : BudM.TakeS n k T y wr f4 f12 f13 f14 f15 false v4 v12 v13 v14 v15 wx) : BudM.TakeS n k T y wr f4 f12 f13 f14 true false v4 v12 v13 v14 (.pointer (some ⟨wx.heap.size, 0, none⟩)) (wx.alloc (.cells #[.int .i64 0, .slice none 0 0] 69)) :=
  ⟨h.below.alloc h.below.size _, fun a b => (h.own4 a b).alloc _, fun a b => (by obtain ⟨q, h1, h2, h3⟩ := h.lit a b; exact ⟨q, h1, h2, h3.alloc _⟩), fun a => (h.own13 a).alloc _, h.agg, fun _ => ⟨_, rfl, h.below.size, Blk.new _ _ _⟩⟩
theorem BudM.TakeS.app {v : Value} (h : BudM.TakeS n k T y wr true f12 false f14 f15 false v4 v12 v13 v14 v15 wx) (hf : f14 = false) (ho : w'.ownsRow wr.heap.size 73 2 v (T.length + 1) (bkVals T ++ [.int .i64 y.at_, .int .i64 k])) (hg : wx.grownBy w' v4.ownBlock) : BudM.TakeS n k T y wr true f12 true f14 f15 false v4 v12 v v14 v15 w' :=
  ⟨h.below.grown hg h.below.size (fun j hj => ((h.own4 rfl rfl).lt j hj).1), (fun _ b => by cases b), (fun _ b => by cases b), fun _ => (by rw [bkVals_append]; exact ho), (fun a => by rw [hf] at a; cases a), fun a => by obtain ⟨q, h1, h2, h3⟩ := h.st a; exact ⟨q, h1, h2, h3.grown hg (h3.ne_own (h.own4 rfl rfl) (by decide))⟩⟩
theorem BudM.TakeS.built (h : BudM.TakeS n k T y wr f4 f12 f13 f14 f15 f16 v4 v12 v13 v14 v15 wx) : BudM.TakeS n k T y wr f4 f12 f13 true f15 f16 v4 v12 v13 (.agg #[.int .i64 n, v13]) v15 wx :=
  ⟨h.below, h.own4, h.lit, h.own13, fun _ => rfl, h.st⟩
theorem BudM.TakeS.put {B : Nat} (h : BudM.TakeS n k T y wr f4 f12 true true true false v4 v12 v13 v14 v15 wx) (hv : v15 = .pointer (some ⟨B, 0, none⟩)) (hB : wr.heap.size ≤ B) (hK : Blk wx B 69 [.int .i64 0, .slice none 0 0]) : BudM.TakeS n k T y wr f4 f12 true true true true v4 v12 v13 v14 v15 ((wx.setCell ⟨B, 0, none⟩ (.int .i64 n)).setCell ⟨B, 1, none⟩ v13) := by
  have hne := hK.ne_own (h.own13 rfl) (by decide)
  exact ⟨(h.below.setCell (by simpa using hB) _).setCell (by simpa using hB) _, (fun _ b => by cases b), (fun _ b => by cases b), fun _ => ownsRow_setCell_other (a := ⟨B, 1, none⟩) (ownsRow_setCell_other (a := ⟨B, 0, none⟩) (h.own13 rfl) hne _) hne _, h.agg, fun _ => ⟨B, hv, hB, (hK.set 0 _).set 1 _⟩⟩
end

set_option maxRecDepth 20000 in
set_option maxHeartbeats 8000000 in
theorem budTake_any (n k : Int) (T : List BkM) (ao : Option Addr) (cap : Nat) (w : World) (h : BksAt w ao T) (hnil : ao = none → cap = 0) (hT0 : T.length ≤ 9000000000000) :
    Calls Try.prog 29 #[.agg #[.int .i64 n, .slice ao T.length cap], .int .i64 k] w (BudM.TakePost n k T w) := by
  obtain ⟨i0, hi0, hz0, hz1, hz2⟩ := info_parts Try.infoBk
  have H := box h; have Hnil := box hnil
  clear h hnil
  go_enter Try.func29, Try.ntmps29
  go_upto_region 1 with (fail)
  refine name_world (fun W => Below w.heap.size w W ∧ Blk W w.heap.size 69 [.int .i64 n, .slice ao T.length cap] ∧ Blk W (w.heap.size + 1) 69 [.int .i64 0, .slice none 0 0]) ⟨((Below.refl _ w).alloc (Nat.le_refl _) _).alloc (by simp) _, (Blk.new _ _ _).alloc _, Blk.new' (by simp) _ _⟩ ?_
  rintro W ⟨hb, hp, hr⟩
  have HB := box hb; have HP := box hp; have HR := box hr
  have p0 := hp.cell (i := 0) rfl
  have p1 := hp.cell (i := 1) rfl
  have hs := hb.size
  clear hb hp hr
  go_wp2_with fail
  refine (budFree_any n T ao cap _ (H.out.below HB.out (Nat.le_refl _)) (by omega)).mono ?_
  rintro e w1 ⟨hb1, h1⟩
  have HB1 := box (HB.out.trans (hb1.mono hs))
  have HP1 := box (HP.out.after hb1)
  have HR1 := box (HR.out.after hb1)
  have hr0 := HR1.out.cell (i := 0) rfl
  have hr1 := HR1.out.cell (i := 1) rfl
  have hf0 := HR1.out.frozen 0
  have hf1 := HR1.out.frozen 1
  have hp0 := HP1.out.cell (i := 0) rfl
  have hBs : Box (∀ wx, Below w.heap.size w wx → ∀ i u, Below w.heap.size w (wx.setCell ⟨w.heap.size + 1, i, none⟩ u)) := ⟨fun wx hx i u => hx.setCell (by simp) u⟩
  have hs1 := HB1.out.size
  clear hb1 p0 p1
  rcases h1 with ⟨hc, rfl⟩ | ⟨hc, vl, rfl, hown⟩
  · obtain ⟨c, HC⟩ : ∃ c, Box (BudM.check n T = c) := ⟨_, ⟨rfl⟩⟩
    have H8 : Box (c ≠ 8) := ⟨by
      rw [← HC.out]
      have h4 : ∀ (l : List BkM) e, BudM.go n e l = 0 ∨ BudM.go n e l = 4 := by
        intro l
        induction l with
        | nil => intro e; exact Or.inl rfl
        | cons x r ih =>
          intro e
          unfold BudM.go
          split
          · exact Or.inr rfl
          · exact ih _
      unfold BudM.check
      split
      · decide
      · rcases h4 T 0 with h | h <;> rw [h] <;> decide⟩
    rw [HC.out] at hc ⊢
    have g1 : (c == 0) = false := by simpa using hc
    have g2 : (c != 0) = true := by simpa using hc
    have HC0 := box hc
    clear hc
    go_wp2_with fail
    refine bodyPost_ret (v := .tuple #[.agg #[.int .i64 0, .slice none 0 0], .int .i64 0, .int .i64 c]) (by simp [results, Try.results29, go_sem, hr0, hr1]) rfl ⟨?_, Or.inl ⟨c, HC0.out, rfl, fun h => absurd h H8.out, fun h => absurd (HC.out.symm.trans h) HC0.out⟩⟩
    exact hBs.out _ (hBs.out _ HB1.out _ _) _ _
  have HC0 := box hc
  clear hc
  have HO := box hown
  clear hown
  have hs0 := HR1.out.lt
  have HErr : Box (∀ (wx : World) (c : Int), Below w.heap.size w wx → c ≠ 0 → (c = 8 → ∀ y ∈ BudM.free n.toNat T 0, y.ord < k) → (0 ≤ k → k ≤ n → ∀ y ∈ BudM.free n.toNat T 0, y.ord < k) → BudM.TakePost n k T w (.returned (.tuple #[.agg #[.int .i64 0, .slice none 0 0], .int .i64 0, .int .i64 c])) wx) := ⟨fun wx c hb h0 h8 h9 => ⟨hb, Or.inl ⟨c, h0, rfl, h8, fun _ => h9⟩⟩⟩
  have hT : T.length ≤ 1024 := BudM.len_of HC0.out
  have hLl : (BudM.free n.toNat T 0).length ≤ 1024 := by
    obtain ⟨m, e1, e2, _⟩ := BudM.check_ok HC0.out
    have h1 := BudM.free_len n.toNat T 0
    have h2 : 2 ^ n.toNat ≤ 2 ^ 10 := Nat.pow_le_pow_right (by omega) (by omega)
    omega
  have HOkP : Box (∀ (wx : World) (y : BkM), y ∈ BudM.free n.toNat T 0 → 0 ≤ k → k ≤ y.ord → ∀ (T' : List BkM) (g cap : Nat), Below w.heap.size w wx → T'.Perm (T ++ [⟨y.at_, k⟩]) → T'.Pairwise (fun x y => x.at_ ≤ y.at_) → wx.ownsRow w.heap.size 73 2 (.slice (some ⟨g, 0, none⟩) T'.length cap) T'.length (bkVals T') → g < wx.heap.size →
      BudM.TakePost n k T w (.returned (.tuple #[.agg #[.int .i64 n, .slice (some ⟨g, 0, none⟩) T'.length cap], .int .i64 y.at_, .int .i64 0])) wx) := ⟨fun wx y hy h0 h1 T' g cap hb hp hw ho hg => ⟨hb, Or.inr ⟨HC0.out, h0, y, hy, h1, T', g, cap, rfl, hp, hw, ho, hg⟩⟩⟩
  obtain ⟨L, HLe⟩ : ∃ L, Box (BudM.free n.toNat T 0 = L) := ⟨_, ⟨rfl⟩⟩
  rw [HLe.out] at hLl HO HErr HOkP
  clear HC0
  cases d1 : decide (k < 0) with
  | true =>
    go_wp2_with fail
    refine bodyPost_ret (v := .tuple #[.agg #[.int .i64 0, .slice none 0 0], .int .i64 0, .int .i64 1]) (by simp [results, Try.results29, go_sem, hr0, hr1]) rfl (HErr.out _ _ (hBs.out _ (hBs.out _ HB1.out _ _) _ _) (by decide) (by intro h; cases h) (fun h => by simp at d1; omega))
  | false =>
  have hk0 : 0 ≤ k := by simp at d1; omega
  cases d2 : decide (n < k) with
  | true =>
    go_wp2_with fail
    refine bodyPost_ret (v := .tuple #[.agg #[.int .i64 0, .slice none 0 0], .int .i64 0, .int .i64 1]) (by simp [results, Try.results29, go_sem, hr0, hr1]) rfl (HErr.out _ _ (hBs.out _ (hBs.out _ HB1.out _ _) _ _) (by decide) (by intro h; cases h) (fun _ h => by simp at d2; omega))
  | false =>
  obtain ⟨lo, lc, rfl, hln, hat, hz, hz2'⟩ := BksAt.own HO.out
  clear hln hz hz2'
  have HAT := box hat
  clear hat
  go_wp2_with fail
  go_loopw [9, 33] (fun t9 t33 wr => ∃ j : Nat, j ≤ L.length ∧ t33 = .int .i64 (j : Int) ∧ t9 = .int .i64 (BudM.bestAt k L j) ∧ Box (Below w1.heap.size w1 wr)) (fun _ t33 _ => L.length - (intOf t33).toNat)
  case atStart => exact ⟨0, Nat.zero_le _, rfl, rfl, ⟨Below.refl _ _⟩⟩
  case round =>
    obtain ⟨j, hj, rfl, rfl, Hb⟩ := hrel
    have HBw := box (HB1.out.trans (Hb.out.mono hs1))
    by_cases hlt : j < L.length
    case neg =>
      have hjL : j = L.length := by omega
      subst hjL
      rcases BudM.bestAt_ok k L L.length (Nat.le_refl _) with ⟨hm, hall⟩ | ⟨bb, hm, hbb, hkb⟩
      · rw [hm]
        have hrx := HR1.out.after Hb.out
        have hr0 := hrx.cell (i := 0) rfl
        have hr1 := hrx.cell (i := 1) rfl
        have hf0 := hrx.frozen 0
        have hf1 := hrx.frozen 1
        have HF := box (HErr.out _ 8 (hBs.out _ (hBs.out _ HBw.out 0 (.int .i64 0)) 1 (.slice none 0 0)) (by decide) (fun _ y hy => by
          obtain ⟨i, hi, rfl⟩ := List.getElem_of_mem hy
          have := hall i hi
          rw [List.getD_eq_getElem?_getD, List.getElem?_eq_getElem hi] at this
          exact this) (fun _ _ y hy => by
          obtain ⟨i, hi, rfl⟩ := List.getElem_of_mem hy
          have := hall i hi
          rw [List.getD_eq_getElem?_getD, List.getElem?_eq_getElem hi] at this
          exact this))
        clear hm hall hrx
        go_wp2_with fail
        refine bodyPost_ret (v := .tuple #[.agg #[.int .i64 0, .slice none 0 0], .int .i64 0, .int .i64 8]) (by simp [results, Try.results29, go_sem, hr0, hr1]) rfl HF.out
      rw [hm]
      have hgb : L.getD bb default = L[bb] := by rw [List.getD_eq_getElem?_getD, List.getElem?_eq_getElem hbb]; rfl
      rw [hgb] at hkb
      have HKb := box hkb
      have HMem := box (List.getElem_mem hbb)
      have HAw := box (HAT.out.below Hb.out (Nat.le_refl _))
      obtain ⟨lb, loff, rfl, hbl, hrow⟩ := HAw.out.resolve_left (by intro h; rw [h] at hbb; simp at hbb)
      have c0 := (hrow bb hbb).1
      have HLc : Box (∀ wx, Below wr.heap.size wr wx → wx.cell? ⟨lb, loff + bb * 2, none⟩ = some (.int .i64 L[bb].at_)) := ⟨fun wx hx => (hx.cell (p := ⟨lb, loff + bb * 2, none⟩) hbl).trans c0⟩
      have HPw := box (HP1.out.after Hb.out)
      have HRw := box (HR1.out.after Hb.out)
      have HTw : Box (∀ wx, Below wr.heap.size wr wx → BksAt wx ao T) := ⟨fun wx hx => H.out.below (HBw.out.trans (hx.mono HBw.out.size)) (Nat.le_refl _)⟩
      have p0 := HPw.out.cell (i := 0) rfl
      have p1 := HPw.out.cell (i := 1) rfl
      have hbL : (bb : Int) < (L.length : Int) := by omega
      have hb00 : (0 : Int) ≤ (bb : Int) := by omega
      have hb0 : decide ((bb : Int) < 0) = false := decide_eq_false (by omega)
      have hws := HBw.out.size
      have hpl := HPw.out.lt
      have hrl := HRw.out.lt
      generalize L[bb] = y at *
      clear hm hgb hkb hrow hp0 hr0 hr1 hf0 hf1
      go_upto_region 15 with (fail)
      obtain ⟨T2, HT2⟩ : ∃ T2, Box (T ++ [(⟨y.at_, k⟩ : BkM)] = T2) := ⟨_, ⟨rfl⟩⟩
      have HT2l : Box (T2.length = T.length + 1) := ⟨by rw [← HT2.out]; simp⟩
      go_cut [12] (fun t12 wx => ∃ (B g gc : Nat), t12 = .pointer (some ⟨B, 0, none⟩) ∧ Blk wx B 69 [.int .i64 n, .slice (some ⟨g, 0, none⟩) T2.length gc] ∧ wx.ownsRow wr.heap.size 73 2 (.slice (some ⟨g, 0, none⟩) T2.length gc) T2.length (bkVals T2) ∧ wr.heap.size ≤ g ∧ g < wx.heap.size ∧ wr.heap.size ≤ B ∧ Below wr.heap.size wr wx)
      case first =>
        have HCl := box (fun W (hW : Below wr.heap.size wr W) => clone_bks T ao cap W (HTw.out W hW) Hnil.out (by omega))
        have HSp : Box (∀ wx, Below wr.heap.size wr wx → wx.cell? ⟨w.heap.size, 0, none⟩ = some (.int .i64 n) ∧ wx.cell? ⟨w.heap.size, 1, none⟩ = some (.slice ao T.length cap) ∧ wx.cell? ⟨lb, loff + bb * 2, none⟩ = some (.int .i64 y.at_)) := ⟨fun wx h => ⟨(HPw.out.after h).cell rfl, (HPw.out.after h).cell rfl, HLc.out wx h⟩⟩
        obtain ⟨PV, HPV⟩ : ∃ PV : Nat → Option Value, Box (PV = fun i => ([some (.pointer (some ⟨w.heap.size, 0, none⟩)), some (.int .i64 n), some (.pointer (some ⟨w.heap.size, 1, none⟩)), some (.slice ao T.length cap), none, some (.slice (some ⟨lb, loff, none⟩) L.length lc), some (.int .i64 (bb : Int)), some (.pointer (some ⟨lb, loff + bb * 2, none⟩)), some (.pointer (some ⟨lb, loff + bb * 2, none⟩)), some (.int .i64 y.at_), some (.int .i64 k), some (.agg #[.int .i64 y.at_, .int .i64 k]), none, none, none, none, none] : List (Option Value)).getD i none) := ⟨_, ⟨rfl⟩⟩
        refine wp_region_dagv (by kernel_rfl) (fun Lf vals wx => (∀ i v, PV i = some v → Lf.getD i false = true → vals i = v) ∧ BudM.TakeS n k T y wr (Lf.getD 4 false) (Lf.getD 12 false) (Lf.getD 13 false) (Lf.getD 14 false) (Lf.getD 15 false) (Lf.getD 16 false) (vals 4) (vals 12) (vals 13) (vals 14) (vals 15) wx) (by kernel_rfl) ?_ ?_ ?_
        · refine ⟨fun i v _ h => absurd h (by simp [Array.getD_eq_getD_getElem?, Array.getElem?_replicate]; try (split <;> simp)), ?_⟩
          simp only [Array.getD_eq_getD_getElem?, Array.getElem?_replicate, List.size_toArray, List.length_cons, List.length_nil, Nat.reduceAdd, Nat.reduceLT, if_true, Option.getD_some]
          exact ⟨(Below.refl _ _).drew, fun h => (by cases h), fun h => (by cases h), fun h => (by cases h), fun h => (by cases h), fun h => (by cases h)⟩
        · intro i hi o ho Lf vals b wx hat haft hL hR
          obtain ⟨hP, hS⟩ := hR
          have hco := hat.const
          have hkeep : ∀ i v, (PV i = some v ∨ PV i = none) → Lf.getD i true = false → (∀ j u, PV j = some u → (Lf.setIfInBounds i true).getD j false = true → Dag.turn vals i v j = u) := fun i v hv hL j u hu hj => by
            by_cases e : j = i
            · subst e; rw [Dag.turn_same]; rcases hv with hv | hv <;> rw [hv] at hu <;> simp at hu; exact hu
            · rw [Dag.turn_other _ _ e]; rw [getD_set_ne false (Ne.symm e)] at hj; exact hP j u hu hj
          have r2 : b.eval (.tmp 2) = .pointer (some ⟨w.heap.size, 0, none⟩) := hat.old 2 (by
            intro j o' hj
            match j with
            | 0 | 1 | 2 | 3 | 4 | 5 | 6 | 7 | 8 | 9 | 10 | 11 | 12 | 13 | 14 | 15 | 16 => injection hj with hj; subst hj; simp
            | j + 17 => cases hj)
          have r7 : b.eval (.tmp 7) = .slice (some ⟨lb, loff, none⟩) L.length lc := hat.old 7 (by
            intro j o' hj
            match j with
            | 0 | 1 | 2 | 3 | 4 | 5 | 6 | 7 | 8 | 9 | 10 | 11 | 12 | 13 | 14 | 15 | 16 => injection hj with hj; subst hj; simp
            | j + 17 => cases hj)
          have r9 : b.eval (.tmp 9) = .int .i64 (bb : Int) := hat.old 9 (by
            intro j o' hj
            match j with
            | 0 | 1 | 2 | 3 | 4 | 5 | 6 | 7 | 8 | 9 | 10 | 11 | 12 | 13 | 14 | 15 | 16 => injection hj with hj; subst hj; simp
            | j + 17 => cases hj)
          have r1 : b.eval (.tmp 1) = .int .i64 k := hat.old 1 (by
            intro j o' hj
            match j with
            | 0 | 1 | 2 | 3 | 4 | 5 | 6 | 7 | 8 | 9 | 10 | 11 | 12 | 13 | 14 | 15 | 16 => injection hj with hj; subst hj; simp
            | j + 17 => cases hj)
          have hcl := HSp.out wx hS.below
          obtain ⟨p0, p1, c0⟩ := hcl
          match i, hi with
          | 0, _ =>
            injection ho with ho
            subst ho
            refine Dag.yields (w' := wx) (.pointer (some ⟨w.heap.size, 0, none⟩)) ?_ ⟨.pointer (some ⟨w.heap.size, 0, none⟩), rfl, hkeep 0 _ (Or.inl (by rw [HPV.out]; rfl)) hL, ?_⟩
            · clear hP hS hat haft hkeep hL
              generalize b.eval = ρ at *
              go_simp
            · simp only [getD_set_ne false (show 0 ≠ 4 by decide), getD_set_ne false (show 0 ≠ 12 by decide), getD_set_ne false (show 0 ≠ 13 by decide), getD_set_ne false (show 0 ≠ 14 by decide), getD_set_ne false (show 0 ≠ 15 by decide), getD_set_ne false (show 0 ≠ 16 by decide), Dag.turn_other vals (i := 0) (j := 4) _ (by decide), Dag.turn_other vals (i := 0) (j := 12) _ (by decide), Dag.turn_other vals (i := 0) (j := 13) _ (by decide), Dag.turn_other vals (i := 0) (j := 14) _ (by decide), Dag.turn_other vals (i := 0) (j := 15) _ (by decide)]
              exact hS
          | 1, _ =>
            injection ho with ho
            subst ho
            have e61 : b.eval (.tmp 61) = .pointer (some ⟨w.heap.size, 0, none⟩) := (hat.new 0 _ 61 (haft ⟨0, .data⟩ (by simp) rfl) rfl rfl).trans (hP 0 _ (by rw [HPV.out]; rfl) (haft ⟨0, .data⟩ (by simp) rfl))
            refine Dag.yields (w' := wx) (.int .i64 n) ?_ ⟨.int .i64 n, rfl, hkeep 1 _ (Or.inl (by rw [HPV.out]; rfl)) hL, ?_⟩
            · clear hP hS hat haft hkeep hL
              generalize b.eval = ρ at *
              go_simp
            · simp only [getD_set_ne false (show 1 ≠ 4 by decide), getD_set_ne false (show 1 ≠ 12 by decide), getD_set_ne false (show 1 ≠ 13 by decide), getD_set_ne false (show 1 ≠ 14 by decide), getD_set_ne false (show 1 ≠ 15 by decide), getD_set_ne false (show 1 ≠ 16 by decide), Dag.turn_other vals (i := 1) (j := 4) _ (by decide), Dag.turn_other vals (i := 1) (j := 12) _ (by decide), Dag.turn_other vals (i := 1) (j := 13) _ (by decide), Dag.turn_other vals (i := 1) (j := 14) _ (by decide), Dag.turn_other vals (i := 1) (j := 15) _ (by decide)]
              exact hS
          | 2, _ =>
            injection ho with ho
            subst ho
            refine Dag.yields (w' := wx) (.pointer (some ⟨w.heap.size, 1, none⟩)) ?_ ⟨.pointer (some ⟨w.heap.size, 1, none⟩), rfl, hkeep 2 _ (Or.inl (by rw [HPV.out]; rfl)) hL, ?_⟩
            · clear hP hS hat haft hkeep hL
              generalize b.eval = ρ at *
              go_simp
            · simp only [getD_set_ne false (show 2 ≠ 4 by decide), getD_set_ne false (show 2 ≠ 12 by decide), getD_set_ne false (show 2 ≠ 13 by decide), getD_set_ne false (show 2 ≠ 14 by decide), getD_set_ne false (show 2 ≠ 15 by decide), getD_set_ne false (show 2 ≠ 16 by decide), Dag.turn_other vals (i := 2) (j := 4) _ (by decide), Dag.turn_other vals (i := 2) (j := 12) _ (by decide), Dag.turn_other vals (i := 2) (j := 13) _ (by decide), Dag.turn_other vals (i := 2) (j := 14) _ (by decide), Dag.turn_other vals (i := 2) (j := 15) _ (by decide)]
              exact hS
          | 3, _ =>
            injection ho with ho
            subst ho
            have e63 : b.eval (.tmp 63) = .pointer (some ⟨w.heap.size, 1, none⟩) := (hat.new 2 _ 63 (haft ⟨2, .data⟩ (by simp) rfl) rfl rfl).trans (hP 2 _ (by rw [HPV.out]; rfl) (haft ⟨2, .data⟩ (by simp) rfl))
            refine Dag.yields (w' := wx) (.slice ao T.length cap) ?_ ⟨.slice ao T.length cap, rfl, hkeep 3 _ (Or.inl (by rw [HPV.out]; rfl)) hL, ?_⟩
            · clear hP hS hat haft hkeep hL
              generalize b.eval = ρ at *
              go_simp
            · simp only [getD_set_ne false (show 3 ≠ 4 by decide), getD_set_ne false (show 3 ≠ 12 by decide), getD_set_ne false (show 3 ≠ 13 by decide), getD_set_ne false (show 3 ≠ 14 by decide), getD_set_ne false (show 3 ≠ 15 by decide), getD_set_ne false (show 3 ≠ 16 by decide), Dag.turn_other vals (i := 3) (j := 4) _ (by decide), Dag.turn_other vals (i := 3) (j := 12) _ (by decide), Dag.turn_other vals (i := 3) (j := 13) _ (by decide), Dag.turn_other vals (i := 3) (j := 14) _ (by decide), Dag.turn_other vals (i := 3) (j := 15) _ (by decide)]
              exact hS
          | 4, _ =>
            injection ho with ho
            subst ho
            have e64 : b.eval (.tmp 64) = .slice ao T.length cap := (hat.new 3 _ 64 (haft ⟨3, .data⟩ (by simp) rfl) rfl rfl).trans (hP 3 _ (by rw [HPV.out]; rfl) (haft ⟨3, .data⟩ (by simp) rfl))
            refine Dag.calls (w' := wx) (f := 34) (args := #[.slice ao T.length cap]) ?_ (fun v w'' => w''.ownsRow wx.heap.size 73 2 v T.length (bkVals T) ∧ Below wx.heap.size wx w'') ?_ ?_
            · have ef : b.eval (.func 34) = .func (.func 34) #[] #[] := rfl
              clear hP hS hat haft hkeep hL
              generalize b.eval = ρ at *
              go_simp
            · refine (HCl.out wx hS.below).mono ?_
              rintro e w'' ⟨⟨v, rfl, ho⟩, hb⟩
              exact ⟨v, rfl, ho, hb⟩
            · rintro v w'' ⟨ho, hb⟩
              refine ⟨v, rfl, hkeep 4 _ (Or.inr (by rw [HPV.out]; rfl)) hL, ?_⟩
              have h13 : Lf.getD 13 false = false := by
                cases h : Lf.getD 13 false with
                | false => rfl
                | true => have := hat.closed 13 _ h rfl ⟨4, .data⟩ (by simp) rfl; rw [Dag.off hL] at this; cases this
              rw [Dag.on hL]
              simp only [getD_set_ne false (show 4 ≠ 12 by decide), getD_set_ne false (show 4 ≠ 13 by decide), getD_set_ne false (show 4 ≠ 14 by decide), getD_set_ne false (show 4 ≠ 15 by decide), getD_set_ne false (show 4 ≠ 16 by decide), Dag.turn_same, Dag.turn_other vals (i := 4) (j := 12) _ (by decide), Dag.turn_other vals (i := 4) (j := 13) _ (by decide), Dag.turn_other vals (i := 4) (j := 14) _ (by decide), Dag.turn_other vals (i := 4) (j := 15) _ (by decide)]
              rw [h13] at hS ⊢
              exact hS.call ho hb
          | 5, _ =>
            injection ho with ho
            subst ho
            refine Dag.yields (w' := wx) (.slice (some ⟨lb, loff, none⟩) L.length lc) ?_ ⟨.slice (some ⟨lb, loff, none⟩) L.length lc, rfl, hkeep 5 _ (Or.inl (by rw [HPV.out]; rfl)) hL, ?_⟩
            · clear hP hS hat haft hkeep hL
              generalize b.eval = ρ at *
              go_simp
            · simp only [getD_set_ne false (show 5 ≠ 4 by decide), getD_set_ne false (show 5 ≠ 12 by decide), getD_set_ne false (show 5 ≠ 13 by decide), getD_set_ne false (show 5 ≠ 14 by decide), getD_set_ne false (show 5 ≠ 15 by decide), getD_set_ne false (show 5 ≠ 16 by decide), Dag.turn_other vals (i := 5) (j := 4) _ (by decide), Dag.turn_other vals (i := 5) (j := 12) _ (by decide), Dag.turn_other vals (i := 5) (j := 13) _ (by decide), Dag.turn_other vals (i := 5) (j := 14) _ (by decide), Dag.turn_other vals (i := 5) (j := 15) _ (by decide)]
              exact hS
          | 6, _ =>
            injection ho with ho
            subst ho
            refine Dag.yields (w' := wx) (.int .i64 (bb : Int)) ?_ ⟨.int .i64 (bb : Int), rfl, hkeep 6 _ (Or.inl (by rw [HPV.out]; rfl)) hL, ?_⟩
            · clear hP hS hat haft hkeep hL
              generalize b.eval = ρ at *
              go_simp
            · simp only [getD_set_ne false (show 6 ≠ 4 by decide), getD_set_ne false (show 6 ≠ 12 by decide), getD_set_ne false (show 6 ≠ 13 by decide), getD_set_ne false (show 6 ≠ 14 by decide), getD_set_ne false (show 6 ≠ 15 by decide), getD_set_ne false (show 6 ≠ 16 by decide), Dag.turn_other vals (i := 6) (j := 4) _ (by decide), Dag.turn_other vals (i := 6) (j := 12) _ (by decide), Dag.turn_other vals (i := 6) (j := 13) _ (by decide), Dag.turn_other vals (i := 6) (j := 14) _ (by decide), Dag.turn_other vals (i := 6) (j := 15) _ (by decide)]
              exact hS
          | 7, _ =>
            injection ho with ho
            subst ho
            have e66 : b.eval (.tmp 66) = .slice (some ⟨lb, loff, none⟩) L.length lc := (hat.new 5 _ 66 (haft ⟨5, .data⟩ (by simp) rfl) rfl rfl).trans (hP 5 _ (by rw [HPV.out]; rfl) (haft ⟨5, .data⟩ (by simp) rfl))
            have e67 : b.eval (.tmp 67) = .int .i64 (bb : Int) := (hat.new 6 _ 67 (haft ⟨6, .data⟩ (by simp) rfl) rfl rfl).trans (hP 6 _ (by rw [HPV.out]; rfl) (haft ⟨6, .data⟩ (by simp) rfl))
            refine Dag.yields (w' := wx) (.pointer (some ⟨lb, loff + bb * 2, none⟩)) ?_ ⟨.pointer (some ⟨lb, loff + bb * 2, none⟩), rfl, hkeep 7 _ (Or.inl (by rw [HPV.out]; rfl)) hL, ?_⟩
            · clear hP hS hat haft hkeep hL
              generalize b.eval = ρ at *
              go_simp
            · simp only [getD_set_ne false (show 7 ≠ 4 by decide), getD_set_ne false (show 7 ≠ 12 by decide), getD_set_ne false (show 7 ≠ 13 by decide), getD_set_ne false (show 7 ≠ 14 by decide), getD_set_ne false (show 7 ≠ 15 by decide), getD_set_ne false (show 7 ≠ 16 by decide), Dag.turn_other vals (i := 7) (j := 4) _ (by decide), Dag.turn_other vals (i := 7) (j := 12) _ (by decide), Dag.turn_other vals (i := 7) (j := 13) _ (by decide), Dag.turn_other vals (i := 7) (j := 14) _ (by decide), Dag.turn_other vals (i := 7) (j := 15) _ (by decide)]
              exact hS
          | 8, _ =>
            injection ho with ho
            subst ho
            have e68 : b.eval (.tmp 68) = .pointer (some ⟨lb, loff + bb * 2, none⟩) := (hat.new 7 _ 68 (haft ⟨7, .data⟩ (by simp) rfl) rfl rfl).trans (hP 7 _ (by rw [HPV.out]; rfl) (haft ⟨7, .data⟩ (by simp) rfl))
            refine Dag.yields (w' := wx) (.pointer (some ⟨lb, loff + bb * 2, none⟩)) ?_ ⟨.pointer (some ⟨lb, loff + bb * 2, none⟩), rfl, hkeep 8 _ (Or.inl (by rw [HPV.out]; rfl)) hL, ?_⟩
            · clear hP hS hat haft hkeep hL
              generalize b.eval = ρ at *
              go_simp
            · simp only [getD_set_ne false (show 8 ≠ 4 by decide), getD_set_ne false (show 8 ≠ 12 by decide), getD_set_ne false (show 8 ≠ 13 by decide), getD_set_ne false (show 8 ≠ 14 by decide), getD_set_ne false (show 8 ≠ 15 by decide), getD_set_ne false (show 8 ≠ 16 by decide), Dag.turn_other vals (i := 8) (j := 4) _ (by decide), Dag.turn_other vals (i := 8) (j := 12) _ (by decide), Dag.turn_other vals (i := 8) (j := 13) _ (by decide), Dag.turn_other vals (i := 8) (j := 14) _ (by decide), Dag.turn_other vals (i := 8) (j := 15) _ (by decide)]
              exact hS
          | 9, _ =>
            injection ho with ho
            subst ho
            have e69 : b.eval (.tmp 69) = .pointer (some ⟨lb, loff + bb * 2, none⟩) := (hat.new 8 _ 69 (haft ⟨8, .data⟩ (by simp) rfl) rfl rfl).trans (hP 8 _ (by rw [HPV.out]; rfl) (haft ⟨8, .data⟩ (by simp) rfl))
            refine Dag.yields (w' := wx) (.int .i64 y.at_) ?_ ⟨.int .i64 y.at_, rfl, hkeep 9 _ (Or.inl (by rw [HPV.out]; rfl)) hL, ?_⟩
            · clear hP hS hat haft hkeep hL
              generalize b.eval = ρ at *
              go_simp
            · simp only [getD_set_ne false (show 9 ≠ 4 by decide), getD_set_ne false (show 9 ≠ 12 by decide), getD_set_ne false (show 9 ≠ 13 by decide), getD_set_ne false (show 9 ≠ 14 by decide), getD_set_ne false (show 9 ≠ 15 by decide), getD_set_ne false (show 9 ≠ 16 by decide), Dag.turn_other vals (i := 9) (j := 4) _ (by decide), Dag.turn_other vals (i := 9) (j := 12) _ (by decide), Dag.turn_other vals (i := 9) (j := 13) _ (by decide), Dag.turn_other vals (i := 9) (j := 14) _ (by decide), Dag.turn_other vals (i := 9) (j := 15) _ (by decide)]
              exact hS
          | 10, _ =>
            injection ho with ho
            subst ho
            refine Dag.yields (w' := wx) (.int .i64 k) ?_ ⟨.int .i64 k, rfl, hkeep 10 _ (Or.inl (by rw [HPV.out]; rfl)) hL, ?_⟩
            · clear hP hS hat haft hkeep hL
              generalize b.eval = ρ at *
              go_simp
            · simp only [getD_set_ne false (show 10 ≠ 4 by decide), getD_set_ne false (show 10 ≠ 12 by decide), getD_set_ne false (show 10 ≠ 13 by decide), getD_set_ne false (show 10 ≠ 14 by decide), getD_set_ne false (show 10 ≠ 15 by decide), getD_set_ne false (show 10 ≠ 16 by decide), Dag.turn_other vals (i := 10) (j := 4) _ (by decide), Dag.turn_other vals (i := 10) (j := 12) _ (by decide), Dag.turn_other vals (i := 10) (j := 13) _ (by decide), Dag.turn_other vals (i := 10) (j := 14) _ (by decide), Dag.turn_other vals (i := 10) (j := 15) _ (by decide)]
              exact hS
          | 11, _ =>
            injection ho with ho
            subst ho
            have e70 : b.eval (.tmp 70) = .int .i64 y.at_ := (hat.new 9 _ 70 (haft ⟨9, .data⟩ (by simp) rfl) rfl rfl).trans (hP 9 _ (by rw [HPV.out]; rfl) (haft ⟨9, .data⟩ (by simp) rfl))
            have e71 : b.eval (.tmp 71) = .int .i64 k := (hat.new 10 _ 71 (haft ⟨10, .data⟩ (by simp) rfl) rfl rfl).trans (hP 10 _ (by rw [HPV.out]; rfl) (haft ⟨10, .data⟩ (by simp) rfl))
            refine Dag.yields (w' := wx) (.agg #[.int .i64 y.at_, .int .i64 k]) ?_ ⟨.agg #[.int .i64 y.at_, .int .i64 k], rfl, hkeep 11 _ (Or.inl (by rw [HPV.out]; rfl)) hL, ?_⟩
            · clear hP hS hat haft hkeep hL
              generalize b.eval = ρ at *
              go_simp
            · simp only [getD_set_ne false (show 11 ≠ 4 by decide), getD_set_ne false (show 11 ≠ 12 by decide), getD_set_ne false (show 11 ≠ 13 by decide), getD_set_ne false (show 11 ≠ 14 by decide), getD_set_ne false (show 11 ≠ 15 by decide), getD_set_ne false (show 11 ≠ 16 by decide), Dag.turn_other vals (i := 11) (j := 4) _ (by decide), Dag.turn_other vals (i := 11) (j := 12) _ (by decide), Dag.turn_other vals (i := 11) (j := 13) _ (by decide), Dag.turn_other vals (i := 11) (j := 14) _ (by decide), Dag.turn_other vals (i := 11) (j := 15) _ (by decide)]
              exact hS
          | 12, _ =>
            injection ho with ho
            subst ho
            have e72 : b.eval (.tmp 72) = .agg #[.int .i64 y.at_, .int .i64 k] := (hat.new 11 _ 72 (haft ⟨11, .data⟩ (by simp) rfl) rfl rfl).trans (hP 11 _ (by rw [HPV.out]; rfl) (haft ⟨11, .data⟩ (by simp) rfl))
            refine Dag.yields (w' := wx.alloc (.cells #[.int .i64 y.at_, .int .i64 k] 73)) (.slice (some ⟨wx.heap.size, 0, none⟩) 1 1) ?_ ⟨_, rfl, hkeep 12 _ (Or.inr (by rw [HPV.out]; rfl)) hL, ?_⟩
            · clear hP hS hat haft hkeep hL
              generalize b.eval = ρ at *
              go_simp
            rw [Dag.on hL]
            simp only [getD_set_ne false (show 12 ≠ 4 by decide), getD_set_ne false (show 12 ≠ 13 by decide), getD_set_ne false (show 12 ≠ 14 by decide), getD_set_ne false (show 12 ≠ 15 by decide), getD_set_ne false (show 12 ≠ 16 by decide), Dag.turn_same, Dag.turn_other vals (i := 12) (j := 4) _ (by decide), Dag.turn_other vals (i := 12) (j := 13) _ (by decide), Dag.turn_other vals (i := 12) (j := 14) _ (by decide), Dag.turn_other vals (i := 12) (j := 15) _ (by decide)]
            exact hS.lay
          | 13, _ =>
            injection ho with ho
            subst ho
            have e65 : b.eval (.tmp 65) = vals 4 := hat.new 4 _ 65 (haft ⟨4, .data⟩ (by simp) rfl) rfl rfl
            have l4 : Lf.getD 4 false = true := haft ⟨4, .data⟩ (by simp) rfl
            have e73 : b.eval (.tmp 73) = vals 12 := hat.new 12 _ 73 (haft ⟨12, .data⟩ (by simp) rfl) rfl rfl
            have l12 : Lf.getD 12 false = true := haft ⟨12, .data⟩ (by simp) rfl
            rw [l4, l12, Dag.off hL] at hS
            obtain ⟨b1, hv12, hb1, hK1⟩ := hS.lit rfl rfl
            have ho := hS.own4 rfl rfl
            refine wp_append_lies wx _ _ 67 rfl wr.heap.size 73 i0 _ 2 16 Try.underlying67 hi0 hz0 hz1 hz2 rfl (by decide) (vals 4) T.length (bkVals T) e65 ho ⟨b1, 0, none⟩ 1 1 [.int .i64 y.at_, .int .i64 k] (e73.trans hv12) rfl (World.news_of_block (cs := #[.int .i64 y.at_, .int .i64 k]) (t := 73) (fr := (0, 0)) hK1) (by simp [Value.oneCell']) (by omega) (by unfold maxLen; omega) (by omega) hS.below.size _ rfl ?_
            intro g gc w'' hown hgrow hatg hltg
            refine ⟨_, rfl, hkeep 13 _ (Or.inr (by rw [HPV.out]; rfl)) hL, ?_⟩
            rw [Dag.on hL]
            simp only [getD_set_ne false (show 13 ≠ 4 by decide), getD_set_ne false (show 13 ≠ 12 by decide), getD_set_ne false (show 13 ≠ 14 by decide), getD_set_ne false (show 13 ≠ 15 by decide), getD_set_ne false (show 13 ≠ 16 by decide), Dag.turn_same, Dag.turn_other vals (i := 13) (j := 4) _ (by decide), Dag.turn_other vals (i := 13) (j := 12) _ (by decide), Dag.turn_other vals (i := 13) (j := 14) _ (by decide), Dag.turn_other vals (i := 13) (j := 15) _ (by decide)]
            have h14 : Lf.getD 14 false = false := by
              cases h : Lf.getD 14 false with
              | false => rfl
              | true => have := hat.closed 14 _ h rfl ⟨13, .data⟩ (by simp) rfl; rw [Dag.off hL] at this; cases this
            have h16 : Lf.getD 16 false = false := by
              cases h : Lf.getD 16 false with
              | false => rfl
              | true => have := hat.closed 16 _ h rfl ⟨14, .data⟩ (by simp) rfl; rw [h14] at this; cases this
            rw [h16] at hS ⊢
            rw [l4, l12]
            exact hS.app h14 hown hgrow
          | 14, _ =>
            injection ho with ho
            subst ho
            have e62 : b.eval (.tmp 62) = .int .i64 n := (hat.new 1 _ 62 (haft ⟨1, .data⟩ (by simp) rfl) rfl rfl).trans (hP 1 _ (by rw [HPV.out]; rfl) (haft ⟨1, .data⟩ (by simp) rfl))
            have e74 : b.eval (.tmp 74) = vals 13 := hat.new 13 _ 74 (haft ⟨13, .data⟩ (by simp) rfl) rfl rfl
            have l13 : Lf.getD 13 false = true := haft ⟨13, .data⟩ (by simp) rfl
            refine Dag.yields (w' := wx) (.agg #[.int .i64 n, vals 13]) ?_ ⟨_, rfl, hkeep 14 _ (Or.inr (by rw [HPV.out]; rfl)) hL, ?_⟩
            · clear hP hat haft hkeep hL
              obtain ⟨rg, rc, hform, _, _⟩ := (hS.own13 l13).form (by omega)
              clear hS
              rw [hform] at e74 ⊢
              generalize b.eval = ρ at *
              go_simp
            rw [Dag.on hL]
            simp only [getD_set_ne false (show 14 ≠ 4 by decide), getD_set_ne false (show 14 ≠ 12 by decide), getD_set_ne false (show 14 ≠ 13 by decide), getD_set_ne false (show 14 ≠ 15 by decide), getD_set_ne false (show 14 ≠ 16 by decide), Dag.turn_same, Dag.turn_other vals (i := 14) (j := 4) _ (by decide), Dag.turn_other vals (i := 14) (j := 12) _ (by decide), Dag.turn_other vals (i := 14) (j := 13) _ (by decide), Dag.turn_other vals (i := 14) (j := 15) _ (by decide)]
            exact hS.built
          | 15, _ =>
            injection ho with ho
            subst ho
            refine Dag.yields (w' := wx.alloc (.cells #[.int .i64 0, .slice none 0 0] 69)) (.pointer (some ⟨wx.heap.size, 0, none⟩)) ?_ ⟨_, rfl, hkeep 15 _ (Or.inr (by rw [HPV.out]; rfl)) hL, ?_⟩
            · clear hP hS hat haft hkeep hL
              generalize b.eval = ρ at *
              go_simp
            have h16 : Lf.getD 16 false = false := by
              cases h : Lf.getD 16 false with
              | false => rfl
              | true => have := hat.closed 16 _ h rfl ⟨15, .data⟩ (by simp) rfl; rw [Dag.off hL] at this; cases this
            rw [Dag.on hL]
            simp only [getD_set_ne false (show 15 ≠ 4 by decide), getD_set_ne false (show 15 ≠ 12 by decide), getD_set_ne false (show 15 ≠ 13 by decide), getD_set_ne false (show 15 ≠ 14 by decide), getD_set_ne false (show 15 ≠ 16 by decide), Dag.turn_same, Dag.turn_other vals (i := 15) (j := 4) _ (by decide), Dag.turn_other vals (i := 15) (j := 12) _ (by decide), Dag.turn_other vals (i := 15) (j := 13) _ (by decide), Dag.turn_other vals (i := 15) (j := 14) _ (by decide)]
            rw [h16] at hS ⊢
            exact hS.made
          | 16, _ =>
            injection ho with ho
            subst ho
            have e12 : b.eval (.tmp 12) = vals 15 := hat.new 15 _ 12 (haft ⟨15, .data⟩ (by simp) rfl) rfl rfl
            have l15 : Lf.getD 15 false = true := haft ⟨15, .data⟩ (by simp) rfl
            have e75 : b.eval (.tmp 75) = vals 14 := hat.new 14 _ 75 (haft ⟨14, .data⟩ (by simp) rfl) rfl rfl
            have l14 : Lf.getD 14 false = true := haft ⟨14, .data⟩ (by simp) rfl
            have l13 : Lf.getD 13 false = true := hat.closed 14 _ l14 rfl ⟨13, .data⟩ (by simp) rfl
            rw [l13, l14, l15, Dag.off hL] at hS
            obtain ⟨B, hv15, hB, hK⟩ := hS.st rfl
            have hv14 := hS.agg rfl
            have c0 := hK.cell (i := 0) rfl
            have c1 := hK.cell (i := 1) rfl
            have f0 := hK.frozen 0
            have f1 := hK.frozen 1
            have q1 := e12.trans hv15
            have q2 := e75.trans hv14
            obtain ⟨vr, hvr⟩ : ∃ vr, vals 13 = vr := ⟨_, rfl⟩
            obtain ⟨rg, rc, hform, _, _⟩ := (hS.own13 rfl).form (by omega)
            rw [hform] at q2
            refine Dag.skips (w' := (wx.setCell ⟨B, 0, none⟩ (.int .i64 n)).setCell ⟨B, 1, none⟩ (.slice (some ⟨rg, 0, none⟩) (T.length + 1) rc)) ?_ ⟨_, rfl, hkeep 16 _ (Or.inr (by rw [HPV.out]; rfl)) hL, ?_⟩
            · clear hP hS hat haft hkeep hL hv14 hv15 e12 e75 hform hvr
              generalize b.eval = ρ at *
              go_simp
            rw [Dag.on hL]
            simp only [getD_set_ne false (show 16 ≠ 4 by decide), getD_set_ne false (show 16 ≠ 12 by decide), getD_set_ne false (show 16 ≠ 13 by decide), getD_set_ne false (show 16 ≠ 14 by decide), getD_set_ne false (show 16 ≠ 15 by decide), Dag.turn_other vals (i := 16) (j := 4) _ (by decide), Dag.turn_other vals (i := 16) (j := 12) _ (by decide), Dag.turn_other vals (i := 16) (j := 13) _ (by decide), Dag.turn_other vals (i := 16) (j := 14) _ (by decide), Dag.turn_other vals (i := 16) (j := 15) _ (by decide)]
            rw [l13, l14, l15, ← hform]
            exact hS.put hv15 hB hK
          | i + 17, h => exact absurd h (by simp)
        · intro Lf vals wx hall hR
          obtain ⟨hP, hS⟩ := hR
          simp only [hall 4 (by simp), hall 12 (by simp), hall 13 (by simp), hall 14 (by simp), hall 15 (by simp), hall 16 (by simp)] at hS
          obtain ⟨B, hv15, hB, hK⟩ := hS.st rfl
          obtain ⟨rg, rc, hform, hrg, hrl⟩ := (hS.own13 rfl).form (by omega)
          have ho := hS.own13 rfl
          rw [hform] at hK ho
          simp only [Dag.all, List.size_toArray, List.length_cons, List.length_nil, Nat.reduceAdd, Act.put, List.getElem?_toArray, List.getElem?_cons_zero, List.getElem?_cons_succ, Option.bind_some, List.setIfInBounds_toArray, List.set_cons_zero, List.set_cons_succ]
          rw [hv15]
          have hbw := hS.below
          clear hP hS hall hv15 hform
          have e2 : T2.length = T.length + 1 := HT2l.out
          rw [HT2.out, ← e2] at ho
          rw [← e2] at hK
          clear e2
          go_step
          go_step
          go_meet
          exact ⟨B, rg, rc, rfl, hK, ho, hrg, hrl, hB, hbw⟩
      case rest =>
      obtain ⟨B, g, gc, rfl, hBk, hown, hg0, hgl, hB0, hbw⟩ := hcut
      have HBx := box hBk; have HOx := box hown; have HBw2 := box hbw
      have b1 := hBk.cell (i := 1) rfl
      clear hBk hown hbw
      go_wp2_with fail
      refine (budSort_any T2 g gc wr.heap.size _ HOx.out hgl (by rw [HT2l.out]; omega)).mono ?_
      rintro e w8 ⟨rfl, T', hperm, hpw, hown8, hb8⟩
      have hBg := HBx.out.ne_own HOx.out (by decide)
      have HB8 := box (HBx.out.grown hb8 hBg)
      have HW8 := box (HBw2.out.grown hb8 HBw2.out.size (fun j hj => by simp at hj; omega))
      have HO8 := box hown8
      have hR8 := HRw.out.below HW8.out HRw.out.lt
      have HR8 := box hR8
      have b0 := HB8.out.cell (i := 0) rfl
      have b1 := HB8.out.cell (i := 1) rfl
      have l0 := HLc.out _ HW8.out
      have r0 := hR8.cell (i := 0) rfl
      have r1 := hR8.cell (i := 1) rfl
      have f0 := hR8.frozen 0
      have f1 := hR8.frozen 1
      have hT' : T'.length = T2.length := hperm.length_eq
      have HFin : Box (∀ wx, Below w.heap.size w wx → wx.ownsRow wr.heap.size 73 2 (.slice (some ⟨g, 0, none⟩) T2.length gc) T2.length (bkVals T') → g < wx.heap.size → BudM.TakePost n k T w (.returned (.tuple #[.agg #[.int .i64 n, .slice (some ⟨g, 0, none⟩) T2.length gc], .int .i64 y.at_, .int .i64 0])) wx) := ⟨fun wx hb ho hg => by
        have := HOkP.out wx y HMem.out hk0 HKb.out T' g gc hb (by rw [HT2.out]; exact hperm) hpw (by rw [hT']; exact ownsRow_mono ho hws) hg
        rw [hT'] at this
        exact this⟩
      have hg8 : g < w8.heap.size := (hown8.lt g rfl).2
      have HG8 := box hg8
      have hne : g ≠ w.heap.size + 1 := by omega
      clear hperm hpw hown8 hb8 hBg hR8 hT'
      have HW8w := box (HBw.out.trans (HW8.out.mono hws))
      have hw8s := HW8w.out.size
      have hrl8 := HR8.out.lt
      have hlbl : lb ≠ w.heap.size + 1 := by
        have h1 := (HO.out.lt lb rfl).1
        have h2 := HR.out.lt
        omega
      have hBl : B ≠ w.heap.size + 1 := by omega
      have HB9 := box ((HB8.out.other (p := ⟨w.heap.size + 1, 0, none⟩) hBl (.int .i64 n)).other (p := ⟨w.heap.size + 1, 1, none⟩) hBl (.slice (some ⟨g, 0, none⟩) T2.length gc))
      have HL9 : Box (((w8.setCell ⟨w.heap.size + 1, 0, none⟩ (.int .i64 n)).setCell ⟨w.heap.size + 1, 1, none⟩ (.slice (some ⟨g, 0, none⟩) T2.length gc)).cell? ⟨lb, loff + bb * 2, none⟩ = some (.int .i64 y.at_)) := ⟨by
        rw [World.cell?_of_block (Below.heap_setCell _ _ _ _ (by show lb ≠ w.heap.size + 1; exact hlbl)), World.cell?_of_block (Below.heap_setCell _ _ _ _ (by show lb ≠ w.heap.size + 1; exact hlbl))]; exact l0⟩
      have HF9 := box (hBs.out _ (hBs.out _ HW8w.out 0 (.int .i64 n)) 1 (.slice (some ⟨g, 0, none⟩) T2.length gc))
      have hne8 : (Value.slice (some ⟨g, 0, none⟩) T2.length gc).ownBlock ≠ some (w.heap.size + 1) := by
        intro e
        simp [Value.ownBlock] at e
        exact hne e
      have HO9 := box (ownsRow_setCell_other (a := ⟨w.heap.size + 1, 1, none⟩) (ownsRow_setCell_other (a := ⟨w.heap.size + 1, 0, none⟩) HO8.out hne8 (.int .i64 n)) hne8 (.slice (some ⟨g, 0, none⟩) T2.length gc))
      clear hne8
      go_upto_region 17 with (fail)
      go_region_held3 (fun w' => w'.cell? ⟨B, 0, none⟩ = some (.int .i64 n) ∧ w'.cell? ⟨B, 1, none⟩ = some (.slice (some ⟨g, 0, none⟩) T2.length gc) ∧ w'.cell? ⟨lb, loff + bb * 2, none⟩ = some (.int .i64 y.at_)) (first | exact ⟨b0, b1, l0⟩ | assumption | exact ⟨HB9.out.cell (i := 0) rfl, HB9.out.cell (i := 1) rfl, HL9.out⟩) (first | fail)
      have HRs := box ((HR8.out.set 0 (.int .i64 n)).set 1 (.slice (some ⟨g, 0, none⟩) T2.length gc))
      have q0 := HRs.out.cell (i := 0) rfl
      have q1 := HRs.out.cell (i := 1) rfl
      have hs9 : w8.heap.size = ((w8.setCell ⟨w.heap.size + 1, 0, none⟩ (.int .i64 n)).setCell ⟨w.heap.size + 1, 1, none⟩ (.slice (some ⟨g, 0, none⟩) T2.length gc)).drew.heap.size := by
        show _ = (World.setCell _ _ _).heap.size
        rw [World.size_setCell, World.size_setCell]
      have HS9 := box hs9
      clear hs9
      go_step
      go_wp2_with fail
      refine bodyPost_ret (v := .tuple #[.agg #[.int .i64 n, .slice (some ⟨g, 0, none⟩) T2.length gc], .int .i64 y.at_, .int .i64 0]) (by simp [results, Try.results29, go_sem, q0, q1]) rfl (HFin.out _ HF9.out.drew HO9.out.drew (by have := HS9.out; omega))
    have hbs := Hb.out.size
    have HAw := box (HAT.out.below Hb.out (Nat.le_refl _))
    obtain ⟨b, off, rfl, hbl, hrow⟩ := HAw.out.resolve_left (by intro h; rw [h] at hlt; simp at hlt)
    obtain ⟨c0, c1⟩ := hrow j hlt
    have HSt : Box (BudM.bestAt k L (j + 1) = if k ≤ (L.getD j default).ord ∧ (BudM.bestAt k L j < 0 ∨ (L.getD j default).ord < (L.getD (BudM.bestAt k L j).toNat default).ord) then (j : Int) else BudM.bestAt k L j) := ⟨rfl⟩
    have hg : L.getD j default = L[j] := by rw [List.getD_eq_getElem?_getD, List.getElem?_eq_getElem hlt]; rfl
    rw [hg] at HSt
    go_upto_region 10 with (fail)
    refine name_world (fun W => Below w1.heap.size w1 W ∧ Blk W wr.heap.size 73 [.int .i64 L[j].at_, .int .i64 L[j].ord] ∧ BksAt W (some ⟨b, off, none⟩) L) ⟨Hb.out.alloc hbs _, Blk.new _ _ _, HAw.out.below ((Below.refl _ wr).alloc (Nat.le_refl _) _) (Nat.le_refl _)⟩ ?_
    rintro W2 ⟨hb2, hk2, ha2⟩
    have HB2 := box (fun q => below_dN hb2 q)
    have x1 := hk2.cell (i := 1) rfl
    have HA2 := box ha2
    obtain ⟨Bx, HBx⟩ : ∃ Bx, Box (wr.heap.size = Bx) := ⟨_, ⟨rfl⟩⟩
    rw [HBx.out] at x1 ⊢
    clear hb2 hk2 ha2 hrow c0 c1
    cases e1 : decide (k ≤ L[j].ord) with
    | false =>
      have HE : Box (BudM.bestAt k L (j + 1) = BudM.bestAt k L j) := ⟨by rw [HSt.out, if_neg (fun h => (of_decide_eq_false e1) h.1)]⟩
      generalize BudM.bestAt k L j = r at *
      generalize L[j] = y at *
      clear HSt hg
      go_quiet (fail)
      go_wp2_with fail
      go_roundw
      case rel => exact ⟨j + 1, hlt, by go_num, by rw [HE.out], ⟨HB2.out _⟩⟩
      case measure => simp [intOf]; omega
    | true =>
    rcases BudM.bestAt_ok k L j hj with ⟨hm, _⟩ | ⟨bb, hm, hbb, hkb⟩
    · have HE : Box (BudM.bestAt k L (j + 1) = (j : Int)) := ⟨by rw [HSt.out, if_pos ⟨of_decide_eq_true e1, Or.inl (by omega)⟩]⟩
      rw [hm]
      generalize L[j] = y at *
      clear HSt hg hm
      go_quiet (fail)
      go_wp2_with fail
      go_roundw
      case rel => exact ⟨j + 1, hlt, by go_num, by rw [HE.out], ⟨HB2.out _⟩⟩
      case measure => simp [intOf]; omega
    · have hbl' : bb < L.length := by omega
      have hgb : L.getD bb default = L[bb] := by rw [List.getD_eq_getElem?_getD, List.getElem?_eq_getElem hbl']; rfl
      obtain ⟨_, _, h5, _, hrow2⟩ := HA2.out.resolve_left (by intro h; rw [h] at hlt; simp at hlt)
      simp only [Option.some.injEq, Addr.mk.injEq, and_true] at h5
      obtain ⟨rfl, rfl⟩ := h5
      have z1 := (hrow2 bb hbl').2
      rw [hm, show ((bb : Int)).toNat = bb by omega, hgb] at HSt
      rw [hm]
      have hb0 : decide ((bb : Int) < 0) = false := decide_eq_false (by omega)
      have hbL : (bb : Int) < (L.length : Int) := by omega
      have hb00 : (0 : Int) ≤ (bb : Int) := by omega
      clear hrow2
      cases e2 : decide (L[j].ord < L[bb].ord) with
      | true =>
        have HE : Box (BudM.bestAt k L (j + 1) = (j : Int)) := ⟨by rw [HSt.out, if_pos ⟨of_decide_eq_true e1, Or.inr (of_decide_eq_true e2)⟩]⟩
        generalize L[j] = y at *
        generalize L[bb] = y2 at *
        clear HSt hg hm hgb
        go_quiet (fail)
        go_wp2_with fail
        go_roundw
        case rel => exact ⟨j + 1, hlt, by go_num, by rw [HE.out], ⟨HB2.out _⟩⟩
        case measure => simp [intOf]; omega
      | false =>
        have HE : Box (BudM.bestAt k L (j + 1) = (bb : Int)) := ⟨by rw [HSt.out, if_neg (fun h => (of_decide_eq_false e2) (h.2.resolve_left (by omega)))]⟩
        generalize L[j] = y at *
        generalize L[bb] = y2 at *
        clear HSt hg hm hgb
        go_quiet (fail)
        go_wp2_with fail
        go_roundw
        case rel => exact ⟨j + 1, hlt, by go_num, by rw [HE.out], ⟨HB2.out _⟩⟩
        case measure => simp [intOf]; omega
end Go.Proofs.Ytfmgncfikaefhaa
