/- BuddyOwn: the walk. -/
import Derived.Test.YtfmgncfikaefhaaBkSpoil
import Derived.Test.YtfmgncfikaefhaaBudT
import Derived.Test.YtfmgncfikaefhaaBudD
namespace Go.Proofs.Ytfmgncfikaefhaa
open Go.RowKit Go.Lib

theorem BksAt.grown' {w w' : World} {ao : Option Addr} {l : List BkM} {row : Option Nat} (h : BksAt w ao l) (hg : w.grownBy w' row) (hr : ∀ b off, ao = some ⟨b, off, none⟩ → row ≠ some b) : BksAt w' ao l := by
  rcases h with h | ⟨b, off, h1, h2, h3⟩
  · exact Or.inl h
  · refine Or.inr ⟨b, off, h1, Nat.lt_of_lt_of_le h2 hg.size, fun k hk => ?_⟩
    obtain ⟨c0, c1⟩ := h3 k hk
    exact ⟨hg.cell c0 (fun e => hr b off h1 e.symm), hg.cell c1 (fun e => hr b off h1 e.symm)⟩
/-- Blocks that a call answered, in memory of its own. -/
structure BkGot (w : World) (B : Nat) (ao : Option Addr) (cap : Nat) (l : List BkM) : Prop where
  at_ : BksAt w ao l
  nil : ao = none → cap = 0
  old : ∀ b off r, ao = some ⟨b, off, r⟩ → B ≤ b
  len : l.length ≤ 1100
section
variable {w w' : World} {B B' : Nat} {ao : Option Addr} {cap : Nat} {l : List BkM}
theorem BkGot.after (h : BkGot w B ao cap l) (hb : Below w.heap.size w w') : BkGot w' B ao cap l := ⟨h.at_.below hb (Nat.le_refl _), h.nil, h.old, h.len⟩
theorem BkGot.mono (h : BkGot w B ao cap l) (hB : B' ≤ B) : BkGot w B' ao cap l := ⟨h.at_, h.nil, fun b off r e => Nat.le_trans hB (h.old b off r e), h.len⟩
theorem BkGot.grown {g : Nat} (h : BkGot w B ao cap l) (hg : w.grownBy w' (some g)) (hb : g < B) : BkGot w' B ao cap l :=
  ⟨h.at_.grown' hg (fun b off e e2 => by injection e2 with e2; subst e2; have := h.old _ _ _ e; omega), h.nil, h.old, h.len⟩
theorem BkGot.none (w : World) (B : Nat) : BkGot w B none 0 [] := ⟨Or.inl rfl, fun _ => rfl, (fun _ _ _ h => by cases h), by simp⟩
theorem BkGot.ofOwn {n : Nat} {v : Value} (h : w.ownsRow B 73 2 v n (bkVals l)) (hl : l.length ≤ 1100) : ∃ ao cap, v = .slice ao l.length cap ∧ BkGot w B ao cap l := by
  obtain ⟨ao, cap, rfl, _, hat, hnil, _⟩ := BksAt.own h
  refine ⟨ao, cap, rfl, hat, hnil, fun b off r e => ?_, hl⟩
  subst e
  exact (h.lt b rfl).1
end
def BudM.TakeGot (w : World) (e : Ending) (w' : World) : Prop := ∃ (n a c : Int) (X : List BkM) (xo : Option Addr) (xc : Nat), e = .returned (.tuple #[.agg #[.int .i64 n, .slice xo X.length xc], .int .i64 a, .int .i64 c]) ∧ BkGot w' w.heap.size xo xc X
def BudM.DropGot (w : World) (e : Ending) (w' : World) : Prop := ∃ (n c : Int) (X : List BkM) (xo : Option Addr) (xc : Nat), e = .returned (.tuple #[.agg #[.int .i64 n, .slice xo X.length xc], .int .i64 c]) ∧ BkGot w' w.heap.size xo xc X
def BudM.FreeGot (w : World) (e : Ending) (w' : World) : Prop := ∃ (c : Int) (X : List BkM) (xo : Option Addr) (xc : Nat), e = .returned (.tuple #[.slice xo X.length xc, .int .i64 c]) ∧ BkGot w' w.heap.size xo xc X
theorem budTake_got (n k : Int) (T : List BkM) (ao : Option Addr) (cap : Nat) (w : World) (h : BksAt w ao T) (hnil : ao = none → cap = 0) (hT : T.length ≤ 9000000000000) :
    Calls Try.prog 29 #[.agg #[.int .i64 n, .slice ao T.length cap], .int .i64 k] w fun e w' => BudM.TakeGot w e w' ∧ Below w.heap.size w w' := by
  refine (budTake_any n k T ao cap w h hnil hT).mono ?_
  rintro e w' ⟨hb, ⟨c, _, rfl, _⟩ | ⟨hc, _, y, _, _, T', g, gc, rfl, hp, _, ho, _⟩⟩
  · exact ⟨⟨0, 0, c, [], none, 0, rfl, BkGot.none _ _⟩, hb⟩
  · have hl : T'.length ≤ 1100 := by
      have h1 := BudM.len_of hc
      have h2 := hp.length_eq
      simp at h2; omega
    obtain ⟨xo, xc, he, hg⟩ := BkGot.ofOwn ho hl
    exact ⟨⟨n, y.at_, 0, T', xo, xc, by rw [he], hg⟩, hb⟩
theorem budDrop_got (n a : Int) (T : List BkM) (ao : Option Addr) (cap : Nat) (w : World) (h : BksAt w ao T) (hnil : ao = none → cap = 0) (hT : T.length ≤ 9000000000000) :
    Calls Try.prog 31 #[.agg #[.int .i64 n, .slice ao T.length cap], .int .i64 a] w fun e w' => BudM.DropGot w e w' ∧ Below w.heap.size w w' := by
  refine (budDrop_any n a T ao cap w h hnil hT).mono ?_
  rintro e w' ⟨hb, ⟨c, _, rfl, _⟩ | ⟨hc, i, _, _, g, gc, rfl, hat, hg, _⟩⟩
  · exact ⟨⟨0, c, [], none, 0, rfl, BkGot.none _ _⟩, hb⟩
  · refine ⟨⟨n, 0, T.eraseIdx i, some ⟨g, 0, none⟩, gc, rfl, hat, (fun h => by cases h), (fun b off r e => ?_), ?_⟩, hb⟩
    · injection e with e; injection e with e; subst e; exact hg
    · have h1 := BudM.len_of hc
      have h2 := List.length_eraseIdx_le T i
      omega
theorem budFree_got (n : Int) (T : List BkM) (ao : Option Addr) (cap : Nat) (w : World) (h : BksAt w ao T) (hT : T.length ≤ 9000000000000) :
    Calls Try.prog 32 #[.agg #[.int .i64 n, .slice ao T.length cap]] w fun e w' => BudM.FreeGot w e w' ∧ Below w.heap.size w w' := by
  refine (budFree_any n T ao cap w h hT).mono ?_
  rintro e w' ⟨hb, ⟨_, rfl⟩ | ⟨hc, v, rfl, ho⟩⟩
  · exact ⟨⟨_, [], none, 0, rfl, BkGot.none _ _⟩, hb⟩
  · have hl : (BudM.free n.toNat T 0).length ≤ 1100 := by
      obtain ⟨m, e1, e2, _⟩ := BudM.check_ok hc
      have h1 := BudM.free_len n.toNat T 0
      have h2 : 2 ^ n.toNat ≤ 2 ^ 10 := Nat.pow_le_pow_right (by omega) (by omega)
      omega
    obtain ⟨xo, xc, rfl, hg⟩ := BkGot.ofOwn ho hl
    exact ⟨⟨0, _, xo, xc, rfl, hg⟩, hb⟩
theorem BudM.take_zero (w : World) : Calls Try.prog 29 #[.agg #[.int .i64 1, .slice none 0 0], .int .i64 0] w fun e w' => Below w.heap.size w w' ∧ ∃ g cap : Nat, e = .returned (.tuple #[.agg #[.int .i64 1, .slice (some ⟨g, 0, none⟩) 1 cap], .int .i64 0, .int .i64 0]) := by
  refine (budTake_any 1 0 [] none 0 w (Or.inl rfl) (fun _ => rfl) (by simp)).mono ?_
  have hfr : BudM.free (1 : Int).toNat [] 0 = [⟨0, 1⟩] := by decide
  rintro e w' ⟨hb, ⟨c, h0, _, _, h9⟩ | ⟨_, _, y, hy, _, T', g, cap, rfl, hp, _⟩⟩
  · have := h9 (by decide) (by decide) (by decide) ⟨0, 1⟩ (by rw [hfr]; simp)
    exact absurd this (by decide)
  · rw [hfr, List.mem_singleton] at hy
    subst hy
    have hl : T'.length = 1 := by rw [hp.length_eq]; rfl
    exact ⟨hb, g, cap, by rw [hl]⟩

/-- In the middle of the statement that lays what is handed in. -/
structure BudM.InS (n : Int) (T : List BkM) (wr : World) (f5 f6 f7 f8 : Bool) (v5 v6 v7 : Value) (wx : World) : Prop where
  below : Below wr.heap.size wr wx
  row : f5 = true → ∃ g, v5 = .slice (some ⟨g, 0, none⟩) T.length (T.length + 3) ∧ BkAmple wx wr.heap.size g T ⟨77, 0⟩
  agg : f6 = true → v6 = .agg #[.int .i64 n, v5]
  st : f7 = true → ∃ B, v7 = .pointer (some ⟨B, 0, none⟩) ∧ wr.heap.size ≤ B ∧ Blk wx B 69 (if f8 = true then [.int .i64 n, v5] else [.int .i64 0, .slice none 0 0])
section
variable {n : Int} {T : List BkM} {wr : World} {f5 f6 f7 f8 : Bool} {v5 v6 v7 : Value} {wx w' : World}
theorem BudM.InS.call {g : Nat} (h : BudM.InS n T wr f5 f6 f7 false v5 v6 v7 wx) (hf : f6 = false) (hr : BkAmple w' wx.heap.size g T ⟨77, 0⟩) (hb : Below wx.heap.size wx w') : BudM.InS n T wr true f6 f7 false (.slice (some ⟨g, 0, none⟩) T.length (T.length + 3)) v6 v7 w' :=
  ⟨h.below.trans (hb.mono h.below.size), fun _ => ⟨g, rfl, ownsRow_mono hr h.below.size⟩, (fun a => by rw [hf] at a; cases a), fun a => by obtain ⟨q, h1, h2, h3⟩ := h.st a; exact ⟨q, h1, h2, h3.after hb⟩⟩
theorem BudM.InS.built (h : BudM.InS n T wr f5 f6 f7 f8 v5 v6 v7 wx) : BudM.InS n T wr f5 true f7 f8 v5 (.agg #[.int .i64 n, v5]) v7 wx := ⟨h.below, h.row, fun _ => rfl, h.st⟩
theorem BudM.InS.made (h : BudM.InS n T wr f5 f6 f7 false v5 v6 v7 wx) : BudM.InS n T wr f5 f6 true false v5 v6 (.pointer (some ⟨wx.heap.size, 0, none⟩)) (wx.alloc (.cells #[.int .i64 0, .slice none 0 0] 69)) :=
  ⟨h.below.alloc h.below.size _, fun a => (by obtain ⟨g, h1, h2⟩ := h.row a; exact ⟨g, h1, World.ownsRow.alloc h2 _⟩), h.agg, fun _ => ⟨_, rfl, h.below.size, Blk.new _ _ _⟩⟩
theorem BudM.InS.put {B g : Nat} (h : BudM.InS n T wr true true true false (.slice (some ⟨g, 0, none⟩) T.length (T.length + 3)) v6 v7 wx) (hv : v7 = .pointer (some ⟨B, 0, none⟩)) (hB : wr.heap.size ≤ B) (hK : Blk wx B 69 [.int .i64 0, .slice none 0 0]) : BudM.InS n T wr true true true true (.slice (some ⟨g, 0, none⟩) T.length (T.length + 3)) v6 v7 ((wx.setCell ⟨B, 0, none⟩ (.int .i64 n)).setCell ⟨B, 1, none⟩ (.slice (some ⟨g, 0, none⟩) T.length (T.length + 3))) := by
  obtain ⟨g', h1, h2⟩ := h.row rfl
  injection h1 with h1
  injection h1 with h1
  injection h1 with h1
  subst h1
  have hne := hK.ne_own h2 (by decide)
  exact ⟨(h.below.setCell (by simpa using hB) _).setCell (by simpa using hB) _, fun _ => ⟨g, rfl, ownsRow_setCell_other (a := ⟨B, 1, none⟩) (ownsRow_setCell_other (a := ⟨B, 0, none⟩) h2 hne _) hne _⟩, h.agg, fun _ => ⟨B, hv, hB, (hK.set 0 _).set 1 _⟩⟩
end
theorem BudM.own_anyN {w : World} {base e g n cap size : Nat} {xs : List Value} (h : w.ownsRow base e size (.slice (some ⟨g, 0, none⟩) n cap) n xs) {k : Nat} (hk : k ≤ cap) : ∃ ys, w.ownsRow base e size (.slice (some ⟨g, 0, none⟩) k cap) k ys := by
  rcases h.2 with ⟨h1, _⟩ | ⟨g', cap', cur, h1, h2, h3, h4, h5, h6, h7⟩
  · cases h1
  · simp only [Value.slice.injEq, Option.some.injEq, Addr.mk.injEq, and_true, true_and] at h1
    obtain ⟨rfl, rfl⟩ := h1
    have hks : k * size ≤ cap * size := Nat.mul_le_mul_right _ hk
    exact ⟨cur.toList.take (k * size), by rw [List.length_take, Array.length_toList]; omega, Or.inr ⟨g, cap, cur, rfl, h2, h3, hk, h5, h6, rfl⟩⟩

/-- What is handed in, and what lies about it. -/
structure BudM.Hand (n : Int) (T : List BkM) (ao : Option Addr) (cap : Nat) (w : World) (Bs g F B : Nat) (X : World) : Prop where
  below : Below w.heap.size w X
  arg : Blk X w.heap.size 69 [.int .i64 n, .slice ao T.length cap]
  blk : Blk X B 69 [.int .i64 n, .slice (some ⟨g, 0, none⟩) T.length (T.length + 3)]
  fill : Blk X F 73 [.int .i64 77, .int .i64 0]
  am : BkAmple X Bs g T ⟨77, 0⟩
theorem BudM.Hand.after {n : Int} {T : List BkM} {ao : Option Addr} {cap : Nat} {w : World} {Bs g F B : Nat} {X X' : World} (h : BudM.Hand n T ao cap w Bs g F B X) (hb : Below X.heap.size X X') : BudM.Hand n T ao cap w Bs g F B X' :=
  ⟨h.below.trans (hb.mono h.below.size), h.arg.after hb, h.blk.after hb, h.fill.after hb, h.am.after hb⟩
theorem BudM.Hand.alloc {n : Int} {T : List BkM} {ao : Option Addr} {cap : Nat} {w : World} {Bs g F B : Nat} {X : World} (h : BudM.Hand n T ao cap w Bs g F B X) (o : Obj) : BudM.Hand n T ao cap w Bs g F B (X.alloc o) := h.after ((Below.refl _ _).alloc (Nat.le_refl _) o)

set_option maxRecDepth 20000 in
set_option maxHeartbeats 8000000 in
theorem buddyOwn_calls (n k a : Int) (T : List BkM) (ao : Option Addr) (cap : Nat) (w : World) (h : BksAt w ao T) (hT : T.length ≤ 8796093022000) (hnil : ao = none → cap = 0) :
    Calls Try.prog 7 #[.agg #[.int .i64 n, .slice ao T.length cap], .int .i64 k, .int .i64 a] w fun e w' => e = .returned (.bool true) ∧ Below w.heap.size w w' := by
  have H := box h; have Hnil := box hnil
  clear h hnil
  go_enter Try.func7, Try.ntmps7
  go_upto_region 1 with (fail)
  refine name_world (fun W => Below w.heap.size w W ∧ Blk W w.heap.size 69 [.int .i64 n, .slice ao T.length cap]) ⟨(Below.refl _ w).alloc (Nat.le_refl _) _, Blk.new _ _ _⟩ ?_
  rintro W ⟨hb, hp⟩
  have HB := box hb; have HP := box hp
  have hs := hb.size
  clear hb hp
  go_wp2_with fail
  refine (BudM.take_zero _).mono ?_
  rintro e w1 ⟨hb1, g1, c1, rfl⟩
  have HB1 := box (HB.out.trans (hb1.mono hs))
  have HP1 := box (HP.out.after hb1)
  have hs1 := HB1.out.size
  clear hb1
  go_upto_region 5 with (fail)
  refine name_world (fun V => Below w.heap.size w V ∧ Blk V w.heap.size 69 [.int .i64 n, .slice ao T.length cap] ∧ Blk V (w1.heap.size + 1) 73 [.int .i64 77, .int .i64 0]) ⟨(HB1.out.alloc hs1 _).alloc (by simp; omega) _, (HP1.out.alloc _).alloc _, Blk.new' (by simp) _ _⟩ ?_
  rintro wr ⟨hb2, hp2, hf2⟩
  obtain ⟨F, HFe⟩ : ∃ F, Box (w1.heap.size + 1 = F) := ⟨_, ⟨rfl⟩⟩
  rw [HFe.out] at hf2 ⊢
  have HB2 := box hb2; have HP2 := box hp2; have HF2 := box hf2
  have hs2 := hb2.size
  clear hb2 hp2 hf2
  have HSp : Box (∀ wx, Below wr.heap.size wr wx → wx.cell? ⟨w.heap.size, 0, none⟩ = some (.int .i64 n) ∧ wx.cell? ⟨w.heap.size, 1, none⟩ = some (.slice ao T.length cap) ∧ wx.cell? ⟨F, 0, none⟩ = some (.int .i64 77) ∧ wx.cell? ⟨F, 1, none⟩ = some (.int .i64 0)) := ⟨fun wx h => ⟨(HP2.out.after h).cell rfl, (HP2.out.after h).cell rfl, (HF2.out.after h).cell rfl, (HF2.out.after h).cell rfl⟩⟩
  have HAm := box (fun W (hW : Below wr.heap.size wr W) => ampleBk_any T ⟨77, 0⟩ ao cap W (H.out.below (HB2.out.trans (hW.mono hs2)) (Nat.le_refl _)) Hnil.out (by omega))
  go_cut [11] (fun t11 wx => ∃ (B g : Nat), t11 = .pointer (some ⟨B, 0, none⟩) ∧ Blk wx B 69 [.int .i64 n, .slice (some ⟨g, 0, none⟩) T.length (T.length + 3)] ∧ BkAmple wx wr.heap.size g T ⟨77, 0⟩ ∧ wr.heap.size ≤ B ∧ Below wr.heap.size wr wx)
  case first =>
    obtain ⟨PV, HPV⟩ : ∃ PV : Nat → Option Value, Box (PV = fun i => ([some (.pointer (some ⟨w.heap.size, 0, none⟩)), some (.int .i64 n), some (.pointer (some ⟨w.heap.size, 1, none⟩)), some (.slice ao T.length cap), some (.agg #[.int .i64 77, .int .i64 0]), none, none, none, none] : List (Option Value)).getD i none) := ⟨_, ⟨rfl⟩⟩
    refine wp_region_dagv (by kernel_rfl) (fun Lf vals wx => (∀ i v, PV i = some v → Lf.getD i false = true → vals i = v) ∧ BudM.InS n T wr (Lf.getD 5 false) (Lf.getD 6 false) (Lf.getD 7 false) (Lf.getD 8 false) (vals 5) (vals 6) (vals 7) wx) (by kernel_rfl) ?_ ?_ ?_
    · refine ⟨fun i v _ h => absurd h (by simp [Array.getD_eq_getD_getElem?, Array.getElem?_replicate]; try (split <;> simp)), ?_⟩
      simp only [Array.getD_eq_getD_getElem?, Array.getElem?_replicate, List.size_toArray, List.length_cons, List.length_nil, Nat.reduceAdd, Nat.reduceLT, if_true, Option.getD_some]
      exact ⟨(Below.refl _ _).drew, fun h => (by cases h), fun h => (by cases h), fun h => (by cases h)⟩
    · intro i hi o ho Lf vals b wx hat haft hL hR
      obtain ⟨hP, hS⟩ := hR
      have hco := hat.const
      have hkeep : ∀ i v, (PV i = some v ∨ PV i = none) → Lf.getD i true = false → (∀ j u, PV j = some u → (Lf.setIfInBounds i true).getD j false = true → Dag.turn vals i v j = u) := fun i v hv hL j u hu hj => by
        by_cases e : j = i
        · subst e; rw [Dag.turn_same]; rcases hv with hv | hv <;> rw [hv] at hu <;> simp at hu; exact hu
        · rw [Dag.turn_other _ _ e]; rw [getD_set_ne false (Ne.symm e)] at hj; exact hP j u hu hj
      have r3 : b.eval (.tmp 3) = .pointer (some ⟨w.heap.size, 0, none⟩) := hat.old 3 (by
        intro j o' hj
        match j with
        | 0 | 1 | 2 | 3 | 4 | 5 | 6 | 7 | 8 => injection hj with hj; subst hj; simp
        | j + 9 => cases hj)
      have r10 : b.eval (.tmp 10) = .pointer (some ⟨F, 0, none⟩) := hat.old 10 (by
        intro j o' hj
        match j with
        | 0 | 1 | 2 | 3 | 4 | 5 | 6 | 7 | 8 => injection hj with hj; subst hj; simp
        | j + 9 => cases hj)
      have hcl := HSp.out wx hS.below
      obtain ⟨p0, p1, z0, z1⟩ := hcl
      match i, hi with
      | 0, _ =>
        injection ho with ho
        subst ho
        refine Dag.yields (w' := wx) (.pointer (some ⟨w.heap.size, 0, none⟩)) ?_ ⟨.pointer (some ⟨w.heap.size, 0, none⟩), rfl, hkeep 0 _ (Or.inl (by rw [HPV.out]; rfl)) hL, ?_⟩
        · clear hP hS hat haft hkeep hL
          generalize b.eval = ρ at *
          go_simp
        · simp only [getD_set_ne false (show 0 ≠ 5 by decide), getD_set_ne false (show 0 ≠ 6 by decide), getD_set_ne false (show 0 ≠ 7 by decide), getD_set_ne false (show 0 ≠ 8 by decide), Dag.turn_other vals (i := 0) (j := 5) _ (by decide), Dag.turn_other vals (i := 0) (j := 6) _ (by decide), Dag.turn_other vals (i := 0) (j := 7) _ (by decide)]
          exact hS
      | 1, _ =>
        injection ho with ho
        subst ho
        have e37 : b.eval (.tmp 37) = .pointer (some ⟨w.heap.size, 0, none⟩) := (hat.new 0 _ 37 (haft ⟨0, .data⟩ (by simp) rfl) rfl rfl).trans (hP 0 _ (by rw [HPV.out]; rfl) (haft ⟨0, .data⟩ (by simp) rfl))
        refine Dag.yields (w' := wx) (.int .i64 n) ?_ ⟨.int .i64 n, rfl, hkeep 1 _ (Or.inl (by rw [HPV.out]; rfl)) hL, ?_⟩
        · clear hP hS hat haft hkeep hL
          generalize b.eval = ρ at *
          go_simp
        · simp only [getD_set_ne false (show 1 ≠ 5 by decide), getD_set_ne false (show 1 ≠ 6 by decide), getD_set_ne false (show 1 ≠ 7 by decide), getD_set_ne false (show 1 ≠ 8 by decide), Dag.turn_other vals (i := 1) (j := 5) _ (by decide), Dag.turn_other vals (i := 1) (j := 6) _ (by decide), Dag.turn_other vals (i := 1) (j := 7) _ (by decide)]
          exact hS
      | 2, _ =>
        injection ho with ho
        subst ho
        refine Dag.yields (w' := wx) (.pointer (some ⟨w.heap.size, 1, none⟩)) ?_ ⟨.pointer (some ⟨w.heap.size, 1, none⟩), rfl, hkeep 2 _ (Or.inl (by rw [HPV.out]; rfl)) hL, ?_⟩
        · clear hP hS hat haft hkeep hL
          generalize b.eval = ρ at *
          go_simp
        · simp only [getD_set_ne false (show 2 ≠ 5 by decide), getD_set_ne false (show 2 ≠ 6 by decide), getD_set_ne false (show 2 ≠ 7 by decide), getD_set_ne false (show 2 ≠ 8 by decide), Dag.turn_other vals (i := 2) (j := 5) _ (by decide), Dag.turn_other vals (i := 2) (j := 6) _ (by decide), Dag.turn_other vals (i := 2) (j := 7) _ (by decide)]
          exact hS
      | 3, _ =>
        injection ho with ho
        subst ho
        have e39 : b.eval (.tmp 39) = .pointer (some ⟨w.heap.size, 1, none⟩) := (hat.new 2 _ 39 (haft ⟨2, .data⟩ (by simp) rfl) rfl rfl).trans (hP 2 _ (by rw [HPV.out]; rfl) (haft ⟨2, .data⟩ (by simp) rfl))
        refine Dag.yields (w' := wx) (.slice ao T.length cap) ?_ ⟨.slice ao T.length cap, rfl, hkeep 3 _ (Or.inl (by rw [HPV.out]; rfl)) hL, ?_⟩
        · clear hP hS hat haft hkeep hL
          generalize b.eval = ρ at *
          go_simp
        · simp only [getD_set_ne false (show 3 ≠ 5 by decide), getD_set_ne false (show 3 ≠ 6 by decide), getD_set_ne false (show 3 ≠ 7 by decide), getD_set_ne false (show 3 ≠ 8 by decide), Dag.turn_other vals (i := 3) (j := 5) _ (by decide), Dag.turn_other vals (i := 3) (j := 6) _ (by decide), Dag.turn_other vals (i := 3) (j := 7) _ (by decide)]
          exact hS
      | 4, _ =>
        injection ho with ho
        subst ho
        refine Dag.yields (w' := wx) (.agg #[.int .i64 77, .int .i64 0]) ?_ ⟨.agg #[.int .i64 77, .int .i64 0], rfl, hkeep 4 _ (Or.inl (by rw [HPV.out]; rfl)) hL, ?_⟩
        · clear hP hS hat haft hkeep hL
          generalize b.eval = ρ at *
          go_simp
        · simp only [getD_set_ne false (show 4 ≠ 5 by decide), getD_set_ne false (show 4 ≠ 6 by decide), getD_set_ne false (show 4 ≠ 7 by decide), getD_set_ne false (show 4 ≠ 8 by decide), Dag.turn_other vals (i := 4) (j := 5) _ (by decide), Dag.turn_other vals (i := 4) (j := 6) _ (by decide), Dag.turn_other vals (i := 4) (j := 7) _ (by decide)]
          exact hS
      | 5, _ =>
        injection ho with ho
        subst ho
        have e40 : b.eval (.tmp 40) = .slice ao T.length cap := (hat.new 3 _ 40 (haft ⟨3, .data⟩ (by simp) rfl) rfl rfl).trans (hP 3 _ (by rw [HPV.out]; rfl) (haft ⟨3, .data⟩ (by simp) rfl))
        have e41 : b.eval (.tmp 41) = .agg #[.int .i64 77, .int .i64 0] := (hat.new 4 _ 41 (haft ⟨4, .data⟩ (by simp) rfl) rfl rfl).trans (hP 4 _ (by rw [HPV.out]; rfl) (haft ⟨4, .data⟩ (by simp) rfl))
        refine Dag.calls (w' := wx) (f := 30) (args := #[.slice ao T.length cap, .agg #[.int .i64 77, .int .i64 0]]) ?_ (fun v w'' => (∃ g, v = .slice (some ⟨g, 0, none⟩) T.length (T.length + 3) ∧ BkAmple w'' wx.heap.size g T ⟨77, 0⟩) ∧ Below wx.heap.size wx w'') ?_ ?_
        · have ef : b.eval (.func 30) = .func (.func 30) #[] #[] := rfl
          clear hP hS hat haft hkeep hL
          generalize b.eval = ρ at *
          go_simp
        · refine (HAm.out wx hS.below).mono ?_
          rintro e w'' ⟨⟨g, rfl, _, _, hr⟩, hb⟩
          exact ⟨_, rfl, ⟨g, rfl, hr⟩, hb⟩
        · rintro v w'' ⟨⟨g, rfl, hr⟩, hb⟩
          refine ⟨_, rfl, hkeep 5 _ (Or.inr (by rw [HPV.out]; rfl)) hL, ?_⟩
          have h6 : Lf.getD 6 false = false := by
            cases h : Lf.getD 6 false with
            | false => rfl
            | true => have := hat.closed 6 _ h rfl ⟨5, .data⟩ (by simp) rfl; rw [Dag.off hL] at this; cases this
          have h8 : Lf.getD 8 false = false := by
            cases h : Lf.getD 8 false with
            | false => rfl
            | true => have := hat.closed 8 _ h rfl ⟨6, .data⟩ (by simp) rfl; rw [h6] at this; cases this
          rw [Dag.on hL]
          simp only [getD_set_ne false (show 5 ≠ 6 by decide), getD_set_ne false (show 5 ≠ 7 by decide), getD_set_ne false (show 5 ≠ 8 by decide), Dag.turn_same, Dag.turn_other vals (i := 5) (j := 6) _ (by decide), Dag.turn_other vals (i := 5) (j := 7) _ (by decide)]
          rw [h8] at hS ⊢
          exact hS.call h6 hr hb
      | 6, _ =>
        injection ho with ho
        subst ho
        have e38 : b.eval (.tmp 38) = .int .i64 n := (hat.new 1 _ 38 (haft ⟨1, .data⟩ (by simp) rfl) rfl rfl).trans (hP 1 _ (by rw [HPV.out]; rfl) (haft ⟨1, .data⟩ (by simp) rfl))
        have e42 : b.eval (.tmp 42) = vals 5 := hat.new 5 _ 42 (haft ⟨5, .data⟩ (by simp) rfl) rfl rfl
        have l5 : Lf.getD 5 false = true := haft ⟨5, .data⟩ (by simp) rfl
        rw [l5] at hS
        obtain ⟨g, hv5, _⟩ := hS.row rfl
        refine Dag.yields (w' := wx) (.agg #[.int .i64 n, vals 5]) ?_ ⟨_, rfl, hkeep 6 _ (Or.inr (by rw [HPV.out]; rfl)) hL, ?_⟩
        · clear hP hS hat haft hkeep hL
          rw [hv5] at e42 ⊢
          generalize b.eval = ρ at *
          go_simp
        rw [Dag.on hL]
        simp only [getD_set_ne false (show 6 ≠ 5 by decide), getD_set_ne false (show 6 ≠ 7 by decide), getD_set_ne false (show 6 ≠ 8 by decide), Dag.turn_same, Dag.turn_other vals (i := 6) (j := 5) _ (by decide), Dag.turn_other vals (i := 6) (j := 7) _ (by decide)]
        rw [l5]
        exact hS.built
      | 7, _ =>
        injection ho with ho
        subst ho
        refine Dag.yields (w' := wx.alloc (.cells #[.int .i64 0, .slice none 0 0] 69)) (.pointer (some ⟨wx.heap.size, 0, none⟩)) ?_ ⟨_, rfl, hkeep 7 _ (Or.inr (by rw [HPV.out]; rfl)) hL, ?_⟩
        · clear hP hS hat haft hkeep hL
          generalize b.eval = ρ at *
          go_simp
        have h8 : Lf.getD 8 false = false := by
          cases h : Lf.getD 8 false with
          | false => rfl
          | true => have := hat.closed 8 _ h rfl ⟨7, .data⟩ (by simp) rfl; rw [Dag.off hL] at this; cases this
        rw [Dag.on hL]
        simp only [getD_set_ne false (show 7 ≠ 5 by decide), getD_set_ne false (show 7 ≠ 6 by decide), getD_set_ne false (show 7 ≠ 8 by decide), Dag.turn_same, Dag.turn_other vals (i := 7) (j := 5) _ (by decide), Dag.turn_other vals (i := 7) (j := 6) _ (by decide)]
        rw [h8] at hS ⊢
        exact hS.made
      | 8, _ =>
        injection ho with ho
        subst ho
        have e11 : b.eval (.tmp 11) = vals 7 := hat.new 7 _ 11 (haft ⟨7, .data⟩ (by simp) rfl) rfl rfl
        have l7 : Lf.getD 7 false = true := haft ⟨7, .data⟩ (by simp) rfl
        have e43 : b.eval (.tmp 43) = vals 6 := hat.new 6 _ 43 (haft ⟨6, .data⟩ (by simp) rfl) rfl rfl
        have l6 : Lf.getD 6 false = true := haft ⟨6, .data⟩ (by simp) rfl
        have l5 : Lf.getD 5 false = true := hat.closed 6 _ l6 rfl ⟨5, .data⟩ (by simp) rfl
        rw [l5, l6, l7, Dag.off hL] at hS
        obtain ⟨g, hv5, _⟩ := hS.row rfl
        obtain ⟨B, hv7, hB, hK⟩ := hS.st rfl
        have hv6 := hS.agg rfl
        have c0 := hK.cell (i := 0) rfl
        have c1 := hK.cell (i := 1) rfl
        have f0 := hK.frozen 0
        have f1 := hK.frozen 1
        rw [hv5] at hS hv6
        have q1 := e11.trans hv7
        have q2 := e43.trans hv6
        refine Dag.skips (w' := (wx.setCell ⟨B, 0, none⟩ (.int .i64 n)).setCell ⟨B, 1, none⟩ (.slice (some ⟨g, 0, none⟩) T.length (T.length + 3))) ?_ ⟨_, rfl, hkeep 8 _ (Or.inr (by rw [HPV.out]; rfl)) hL, ?_⟩
        · clear hP hS hat haft hkeep hL hv6 hv7 e11 e43 hv5
          generalize b.eval = ρ at *
          go_simp
        rw [Dag.on hL]
        simp only [getD_set_ne false (show 8 ≠ 5 by decide), getD_set_ne false (show 8 ≠ 6 by decide), getD_set_ne false (show 8 ≠ 7 by decide), Dag.turn_other vals (i := 8) (j := 5) _ (by decide), Dag.turn_other vals (i := 8) (j := 6) _ (by decide), Dag.turn_other vals (i := 8) (j := 7) _ (by decide)]
        rw [l5, l6, l7, hv5]
        exact hS.put hv7 hB hK
      | i + 9, h => exact absurd h (by simp)
    · intro Lf vals wx hall hR
      obtain ⟨hP, hS⟩ := hR
      simp only [hall 5 (by simp), hall 6 (by simp), hall 7 (by simp), hall 8 (by simp)] at hS
      obtain ⟨g, hv5, hr⟩ := hS.row rfl
      obtain ⟨B, hv7, hB, hK⟩ := hS.st rfl
      rw [hv5] at hK
      simp only [Dag.all, List.size_toArray, List.length_cons, List.length_nil, Nat.reduceAdd, Act.put, List.getElem?_toArray, List.getElem?_cons_zero, List.getElem?_cons_succ, Option.bind_some, List.setIfInBounds_toArray, List.set_cons_zero, List.set_cons_succ]
      rw [hv7]
      have hbw := hS.below
      clear hP hS hall hv7 hv5
      go_step
      go_step
      go_meet
      exact ⟨B, g, rfl, hK, hr, hB, hbw⟩
  case rest =>
  obtain ⟨B, g, rfl, hBk, hAm, hB0, hbw⟩ := hcut
  have HX0 : Box (BudM.Hand n T ao cap w wr.heap.size g F B wc) := ⟨⟨HB2.out.trans (hbw.mono hs2), HP2.out.after hbw, hBk, HF2.out.after hbw, hAm⟩⟩
  have hgw : w.heap.size ≤ wr.heap.size := hs2
  have hBg : wr.heap.size ≤ g ∧ g < wc.heap.size := World.ownsRow.lt hAm g rfl
  have HBg := box hBg
  have HBne : Box (B ≠ g) := ⟨by
    have := hBk.ne_own hAm (by decide)
    intro e
    exact this (by rw [e]; rfl)⟩
  obtain ⟨Bs, HBs⟩ : ∃ Bs, Box (wr.heap.size = Bs) := ⟨_, ⟨rfl⟩⟩
  rw [HBs.out] at HX0 HBg hB0 hgw
  have HFw : Box (F < Bs) := ⟨by have := HF2.out.lt; have := HBs.out; omega⟩
  have HTk := box (fun X (hX : BudM.Hand n T ao cap w Bs g F B X) => budTake_got n k T (some ⟨g, 0, none⟩) (T.length + 3) X hX.am.at_ (fun h => by cases h) (by omega))
  have HDr := box (fun X (hX : BudM.Hand n T ao cap w Bs g F B X) => budDrop_got n a T (some ⟨g, 0, none⟩) (T.length + 3) X hX.am.at_ (fun h => by cases h) (by omega))
  have HFr := box (fun X (hX : BudM.Hand n T ao cap w Bs g F B X) => budFree_got n T (some ⟨g, 0, none⟩) (T.length + 3) X hX.am.at_ (by omega))
  have HSt := box (fun X (hX : BudM.Hand n T ao cap w Bs g F B X) => staysBk_any T ⟨77, 0⟩ ao cap g Bs X (H.out.below hX.below (Nat.le_refl _)) hX.am (by omega))
  have HSo := box (fun X (hX : BudM.Hand n T ao cap w Bs g F B X) => by
    obtain ⟨ys, hys⟩ := BudM.own_anyN hX.am (k := T.length) (by omega)
    exact spoilBk_any Bs g T.length (T.length + 3) ⟨77, 0⟩ ys X hys (by omega))
  obtain ⟨m, HM⟩ : ∃ m, Box (T.length = m) := ⟨_, ⟨rfl⟩⟩
  rw [HM.out] at HTk HDr HFr HSt HSo ⊢
  clear hBk hAm hbw hBg HAm HSp
  have b0 := HX0.out.blk.cell (i := 0) rfl
  have b1 := HX0.out.blk.cell (i := 1) rfl
  rw [HM.out] at b1
  go_wp2_with fail
  refine (HTk.out wc HX0.out).mono ?_
  rintro e w2 ⟨⟨xn, xa, xe, X, xo, xc, rfl, hgx⟩, hb⟩
  have HX2 := box (HX0.out.after hb); have HG2 := box hgx; have HZ2 := box hb.size
  obtain ⟨xl, HXl⟩ : ∃ x, Box (X.length = x) := ⟨_, ⟨rfl⟩⟩
  rw [HXl.out]
  clear hb hgx b0 b1
  go_upto_region 7 with (fail)
  refine name_world (fun V => BudM.Hand n T ao cap w Bs g F B V ∧ Blk V w2.heap.size 69 [.int .i64 xn, .slice xo xl xc] ∧ BkGot V wc.heap.size xo xc X) ⟨HX2.out.alloc _, Blk.new _ _ _, HG2.out.after ((Below.refl _ _).alloc (Nat.le_refl _) _)⟩ ?_
  rintro Y ⟨hY, hx, hgx⟩
  obtain ⟨Bx, HBx⟩ : ∃ x, Box (w2.heap.size = x) := ⟨_, ⟨rfl⟩⟩
  have HZY : Box (wc.heap.size ≤ Y.heap.size) := ⟨Nat.le_trans HZ2.out (Nat.le_of_lt hx.lt)⟩
  rw [HBx.out] at hx ⊢
  have HX3 := box hY; have HXb := box hx; have HG3 := box hgx
  have b0 := hY.blk.cell (i := 0) rfl
  have b1 := hY.blk.cell (i := 1) rfl
  rw [HM.out] at b1
  clear hY hx hgx HX2 HG2
  go_wp2_with fail
  refine (HDr.out Y HX3.out).mono ?_
  rintro e w3 ⟨⟨yn, ye, Yl, yo, yc, rfl, hgy⟩, hb⟩
  have HX4 := box (HX3.out.after hb); have HXb4 := box (HXb.out.after hb); have HG4 := box (HG3.out.after hb); have HY4 := box (hgy.mono HZY.out); have HZ3 := box (Nat.le_trans HZY.out hb.size)
  obtain ⟨yl, HYl⟩ : ∃ x, Box (Yl.length = x) := ⟨_, ⟨rfl⟩⟩
  rw [HYl.out]
  clear hb hgy b0 b1 HX3 HXb HG3
  go_upto_region 8 with (fail)
  refine name_world (fun V => BudM.Hand n T ao cap w Bs g F B V ∧ Blk V Bx 69 [.int .i64 xn, .slice xo xl xc] ∧ BkGot V wc.heap.size xo xc X ∧ Blk V w3.heap.size 69 [.int .i64 yn, .slice yo yl yc] ∧ BkGot V wc.heap.size yo yc Yl) ⟨HX4.out.alloc _, HXb4.out.alloc _, HG4.out.after ((Below.refl _ _).alloc (Nat.le_refl _) _), Blk.new _ _ _, HY4.out.after ((Below.refl _ _).alloc (Nat.le_refl _) _)⟩ ?_
  rintro Z ⟨hY, hx, hgx, hy, hgy⟩
  obtain ⟨By, HBy⟩ : ∃ x, Box (w3.heap.size = x) := ⟨_, ⟨rfl⟩⟩
  have HZZ : Box (wc.heap.size ≤ Z.heap.size) := ⟨Nat.le_trans HZ3.out (Nat.le_of_lt hy.lt)⟩
  rw [HBy.out] at hy ⊢
  have HX5 := box hY; have HXb5 := box hx; have HG5 := box hgx; have HYb5 := box hy; have HY5 := box hgy
  have b0 := hY.blk.cell (i := 0) rfl
  have b1 := hY.blk.cell (i := 1) rfl
  rw [HM.out] at b1
  clear hY hx hgx hy hgy HX4 HXb4 HG4 HY4
  go_wp2_with fail
  refine (HFr.out Z HX5.out).mono ?_
  rintro e w4 ⟨⟨le, Ll, lo, lc, rfl, hgl⟩, hb⟩
  have HX6 := box (HX5.out.after hb); have HXb6 := box (HXb5.out.after hb); have HG6 := box (HG5.out.after hb); have HYb6 := box (HYb5.out.after hb); have HY6 := box (HY5.out.after hb); have HL6 := box (hgl.mono HZZ.out); have HZ6 := box (Nat.le_trans HZZ.out hb.size)
  obtain ⟨ll, HLl⟩ : ∃ x, Box (Ll.length = x) := ⟨_, ⟨rfl⟩⟩
  rw [HLl.out]
  clear hb hgl b0 b1 HX5 HXb5 HG5 HYb5 HY5
  have b1 := HX6.out.blk.cell (i := 1) rfl
  have p1 := HX6.out.arg.cell (i := 1) rfl
  have z0 := HX6.out.fill.cell (i := 0) rfl
  have z1 := HX6.out.fill.cell (i := 1) rfl
  rw [HM.out] at b1 p1
  go_wp2_with fail
  refine (HSt.out w4 HX6.out).mono ?_
  rintro e w5 ⟨rfl, hb⟩
  have HX7 := box (HX6.out.after hb); have HXb7 := box (HXb6.out.after hb); have HG7 := box (HG6.out.after hb); have HYb7 := box (HYb6.out.after hb); have HY7 := box (HY6.out.after hb); have HL7 := box (HL6.out.after hb); have HZ7 := box (Nat.le_trans HZ6.out hb.size)
  clear hb b1 p1 z0 z1 HX6 HXb6 HG6 HYb6 HY6 HL6
  have x1 := HXb7.out.cell (i := 1) rfl
  have y1 := HYb7.out.cell (i := 1) rfl
  have HSp : Box (∀ wx, Below w5.heap.size w5 wx → wx.cell? ⟨Bx, 1, none⟩ = some (.slice xo xl xc) ∧ wx.cell? ⟨By, 1, none⟩ = some (.slice yo yl yc)) := ⟨fun wx h => ⟨(HXb7.out.after h).cell rfl, (HYb7.out.after h).cell rfl⟩⟩
  have HC1 := box (fun V (hV : Below w5.heap.size w5 V) => clone_bks X xo xc V (HG7.out.after hV).at_ HG7.out.nil (by have := HG7.out.len; omega))
  have HC2 := box (fun V (hV : Below w5.heap.size w5 V) => clone_bks Yl yo yc V (HY7.out.after hV).at_ HY7.out.nil (by have := HY7.out.len; omega))
  have HC3 := box (fun V (hV : Below w5.heap.size w5 V) => clone_bks Ll lo lc V (HL7.out.after hV).at_ HL7.out.nil (by have := HL7.out.len; omega))
  rw [HXl.out] at HC1
  rw [HYl.out] at HC2
  rw [HLl.out] at HC3
  go_upto_region 11 with (fail)
  go_cut [19, 20, 21] (fun t19 t20 t21 wx => ∃ (po : Option Addr) (pc : Nat) (qo : Option Addr) (qc : Nat) (ro : Option Addr) (rc : Nat), t19 = .slice po xl pc ∧ t20 = .slice qo yl qc ∧ t21 = .slice ro ll rc ∧ BkGot wx wc.heap.size po pc X ∧ BkGot wx wc.heap.size qo qc Yl ∧ BkGot wx wc.heap.size ro rc Ll ∧ Below w5.heap.size w5 wx)
  case first =>
    go_region_held3 (fun w' => w'.cell? ⟨Bx, 1, none⟩ = some (.slice xo xl xc) ∧ w'.cell? ⟨By, 1, none⟩ = some (.slice yo yl yc)) (first | exact ⟨x1, y1⟩ | assumption)
      (first
        | (go_at_call 34; have _q := HQ2; refine (HC3.out _ HV2.out).mono ?_; rintro e v3 ⟨⟨vr, rfl, hown⟩, hb⟩; obtain ⟨ro, rc, hrc, hgr⟩ := BkGot.ofOwn hown HL7.out.len; rw [HLl.out] at hrc; subst hrc; have HV3 := box (HV2.out.trans (hb.mono HV2.out.size)); have HQ1' := box (HQ1.out.after hb); have HQ2' := box (HQ2.out.after hb); have HQ3 := box (hgr.mono (Nat.le_trans HZ7.out HV2.out.size)); have hh := HSp.out _ HV3.out; clear hb hown hgr)
        | (go_at_call 34; have _q := HQ1; refine (HC2.out _ HV1.out).mono ?_; rintro e v2 ⟨⟨vq, rfl, hown⟩, hb⟩; obtain ⟨qo, qc, hqc, hgq⟩ := BkGot.ofOwn hown HY7.out.len; rw [HYl.out] at hqc; subst hqc; have HV2 := box (HV1.out.trans (hb.mono HV1.out.size)); have HQ1 := box (HQ1.out.after hb); have HQ2 := box (hgq.mono (Nat.le_trans HZ7.out HV1.out.size)); have hh := HSp.out _ HV2.out; clear hb hown hgq)
        | (go_at_call 34; refine (HC1.out _ (Below.refl _ w5).drew).mono ?_; rintro e v1 ⟨⟨vp, rfl, hown⟩, hb⟩; obtain ⟨po, pc, hpc, hgp⟩ := BkGot.ofOwn hown HG7.out.len; rw [HXl.out] at hpc; subst hpc; have HV1 := box (below_tr (Below.refl _ w5).drew hb); have HQ1 := box (hgp.mono (show wc.heap.size ≤ w5.drew.heap.size from HZ7.out)); have hh := HSp.out _ HV1.out; clear hb hown hgp)
        | fail)
    all_goals
      go_step
      go_step
      go_meet
      exact ⟨_, _, _, _, _, _, rfl, rfl, rfl, HQ1'.out, HQ2'.out, HQ3.out, HV3.out⟩
  case rest =>
  obtain ⟨po, pc, qo, qc, ro, rc, rfl, rfl, rfl, hp, hq, hr, hbw⟩ := hcut
  have HX8 := box (HX7.out.after hbw); have HXb8 := box (HXb7.out.after hbw); have HG8 := box (HG7.out.after hbw); have HYb8 := box (HYb7.out.after hbw); have HY8 := box (HY7.out.after hbw); have HL8 := box (HL7.out.after hbw)
  have HP8 := box hp; have HQ8 := box hq; have HR8 := box hr
  clear hbw hp hq hr x1 y1 HSp HC1 HC2 HC3 HX7 HXb7 HG7 HYb7 HY7 HL7
  have b1 := HX8.out.blk.cell (i := 1) rfl
  have z0 := HX8.out.fill.cell (i := 0) rfl
  have z1 := HX8.out.fill.cell (i := 1) rfl
  rw [HM.out] at b1
  go_wp2_with fail
  refine (HSo.out wc HX8.out).mono ?_
  rintro e w9 ⟨rfl, hgr⟩
  have HB9 := box (HX8.out.below.grown hgr HX8.out.below.size (fun j hj => by injection hj with hj; subst hj; have := HBg.out.1; omega))
  have HXb9 := box (HXb8.out.grown hgr (HXb8.out.ne_own HX8.out.am (by decide)))
  have HYb9 := box (HYb8.out.grown hgr (HYb8.out.ne_own HX8.out.am (by decide)))
  have HG9 := box (HG8.out.grown hgr HBg.out.2); have HY9 := box (HY8.out.grown hgr HBg.out.2); have HL9 := box (HL8.out.grown hgr HBg.out.2)
  have HP9 := box (HP8.out.grown hgr HBg.out.2); have HQ9 := box (HQ8.out.grown hgr HBg.out.2); have HR9 := box (HR8.out.grown hgr HBg.out.2)
  clear hgr b1 z0 z1 HX8 HXb8 HG8 HYb8 HY8 HL8 HP8 HQ8 HR8
  have x1 := HXb9.out.cell (i := 1) rfl
  have HE1 := box (BkA.equal X xo po xc pc w9 HG9.out.at_ HP9.out.at_ (by have := HG9.out.len; omega))
  rw [HXl.out] at HE1
  go_wp2_with fail
  refine HE1.out.mono ?_
  rintro e wA ⟨rfl, k1, rfl⟩
  have hbA := bud_dN (Below.refl w9.heap.size w9) k1
  have HBA := box (HB9.out.trans (hbA.mono HB9.out.size))
  have y1 := (HYb9.out.after hbA).cell (i := 1) rfl
  have HYA := box (HY9.out.after hbA); have HQA := box (HQ9.out.after hbA); have HLA := box (HL9.out.after hbA); have HRA := box (HR9.out.after hbA)
  generalize w9.drewN k1 = wE at *
  clear hbA x1
  have HE2 := box (BkA.equal Yl yo qo yc qc wE HYA.out.at_ HQA.out.at_ (by have := HYA.out.len; omega))
  rw [HYl.out] at HE2
  go_wp2_with fail
  refine HE2.out.mono ?_
  rintro e wB ⟨rfl, k2, rfl⟩
  have hbB := bud_dN (Below.refl wE.heap.size wE) k2
  have HBB := box (HBA.out.trans (hbB.mono HBA.out.size))
  have HLB := box (HLA.out.after hbB); have HRB := box (HRA.out.after hbB)
  generalize wE.drewN k2 = wF at *
  clear hbB y1
  have HE3 := box (BkA.equal Ll lo ro lc rc wF HLB.out.at_ HRB.out.at_ (by have := HLB.out.len; omega))
  rw [HLl.out] at HE3
  go_wp2_with fail
  refine HE3.out.mono ?_
  rintro e wC ⟨rfl, k3, rfl⟩
  go_wp2_with fail
  go_ret
  exact ⟨by simp, bud_dN HBB.out _⟩
end Go.Proofs.Ytfmgncfikaefhaa
