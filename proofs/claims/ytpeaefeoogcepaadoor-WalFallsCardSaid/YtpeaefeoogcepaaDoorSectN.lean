/- sect.New. -/
import Derived.Test.YtpeaefeoogcepaaDoorSectX
import Derived.Test.YtpeaefeoogcepaaDoorPutR
import Derived.Deep.AppendLies
namespace Go.Proofs.YtpeaefeoogcepaaDoor
open Go.RowKit Go.Lib

def SectM.blanks (k : Nat) : List ByteArray := List.replicate k SectM.blank
theorem SectM.blanks_succ (k : Nat) : strVals (SectM.blanks k) ++ [.string SectM.blank] = strVals (SectM.blanks (k + 1)) := by
  unfold SectM.blanks strVals
  rw [List.replicate_succ', List.map_append]; rfl
theorem Tryd.infoStr2 : (Tryd.prog.info? 9).map (fun i => (i.zero, i.size, i.bytes)) = some (some (.string ByteArray.empty), 1, 16) := by kernel_rfl

/-- New, in the loop. -/
structure SectM.NewAt (w : World) (D : Nat) (vs : Value) (k : Nat) (wr : World) : Prop where
  below : Below D w wr
  blk : Blk wr D 59 [vs, .slice none 0 0, .slice none 0 0, .int .i64 (-1)]
  own : wr.ownsRow D 9 1 vs k (strVals (SectM.blanks k))
/-- In the middle of the statement that lays one more sector. -/
structure SectM.NewS (w : World) (D : Nat) (vs : Value) (k : Nat) (f5 f6 f7 f10 : Bool) (v5 v6 v7 : Value) (wx : World) : Prop where
  below : Below D w wx
  blk : Blk wx D 59 [if f10 = true then v7 else vs, .slice none 0 0, .slice none 0 0, .int .i64 (-1)]
  own : f7 = false → wx.ownsRow D 9 1 vs k (strVals (SectM.blanks k))
  str : f5 = true → v5 = .string SectM.blank
  lit : f6 = true → f7 = false → ∃ b, v6 = .slice (some ⟨b, 0, none⟩) 1 1 ∧ Blk wx b 9 [.string SectM.blank]
  own7 : f7 = true → ∃ a c, v7 = .slice a (k + 1) c ∧ wx.ownsRow D 9 1 v7 (k + 1) (strVals (SectM.blanks (k + 1)))
section
variable {w wx w' : World} {D k : Nat} {vs v5 v6 v7 : Value} {f5 f6 f7 f10 : Bool}
theorem SectM.NewS.call (h : SectM.NewS w D vs k f5 f6 false f10 v5 v6 v7 wx) (hb : Below wx.heap.size wx w') : SectM.NewS w D vs k true f6 false f10 (.string SectM.blank) v6 v7 w' :=
  ⟨h.below.trans (hb.mono (Nat.le_of_lt h.blk.lt)), h.blk.after hb, fun a => ownsRow_below (h.own a) hb, fun _ => rfl, fun a b => by obtain ⟨q, h1, h2⟩ := h.lit a b; exact ⟨q, h1, h2.after hb⟩, fun a => by cases a⟩
theorem SectM.NewS.lay (h : SectM.NewS w D vs k f5 f6 f7 f10 v5 v6 v7 wx) : SectM.NewS w D vs k f5 true f7 f10 v5 (.slice (some ⟨wx.heap.size, 0, none⟩) 1 1) v7 (wx.alloc (.cells #[.string SectM.blank] 9)) :=
  ⟨h.below.alloc (Nat.le_of_lt h.blk.lt) _, h.blk.alloc _, fun a => (h.own a).alloc _, h.str, fun _ _ => ⟨_, rfl, Blk.new _ _ _⟩, fun a => by obtain ⟨q, c, h1, h2⟩ := h.own7 a; exact ⟨q, c, h1, h2.alloc _⟩⟩
theorem SectM.NewS.app {a : Option Addr} {c : Nat} (h : SectM.NewS w D vs k f5 f6 false false v5 v6 v7 wx) (ho : w'.ownsRow D 9 1 (.slice a (k + 1) c) (k + 1) (strVals (SectM.blanks k) ++ [.string SectM.blank])) (hg : wx.grownBy w' vs.ownBlock) : SectM.NewS w D vs k f5 f6 true false v5 v6 (.slice a (k + 1) c) w' :=
  ⟨h.below.grown hg (Nat.le_of_lt h.blk.lt) (fun j hj => ((h.own rfl).lt j hj).1), h.blk.grown hg (h.blk.ne_own (h.own rfl) (by decide)), (fun a => by cases a), h.str, (fun _ b => by cases b), fun _ => ⟨a, c, rfl, by rw [← SectM.blanks_succ]; exact ho⟩⟩
theorem SectM.NewS.put (h : SectM.NewS w D vs k f5 f6 true false v5 v6 v7 wx) : SectM.NewS w D vs k f5 f6 true true v5 v6 v7 (wx.setCell ⟨D, 0, none⟩ v7) :=
  ⟨h.below.setCell (Nat.le_refl _) _, h.blk.set 0 _, (fun a => by cases a), h.str, (fun _ b => by cases b), fun _ => by
    obtain ⟨q, c, h1, h2⟩ := h.own7 rfl
    exact ⟨q, c, h1, ownsRow_setCell_other (a := ⟨D, 0, none⟩) h2 (h.blk.ne_own h2 (by decide)) _⟩⟩
end

/-- A new disk. -/
def SectM.NewPost (n : Nat) (w : World) (e : Ending) (w' : World) : Prop :=
  Below w.heap.size w w' ∧ ∃ vs ve, e = .returned (.tuple #[.pointer (some ⟨w.heap.size, 0, none⟩), .int .i64 0]) ∧ SectM.At w' w.heap.size w.heap.size vs ve (.slice none 0 0) (SectM.start n)

set_option maxRecDepth 20000 in
set_option maxHeartbeats 8000000 in
theorem sectNew_any (n : Nat) (w : World) (h1 : 1 ≤ n) (h2 : n ≤ 256) :
    Calls Tryd.prog 15 #[.int .i64 (n : Int)] w (SectM.NewPost n w) := by
  obtain ⟨i0, hi0, hz0, hz1, hz2⟩ := info_parts Tryd.infoStr2
  have b1 : decide ((n : Int) < 1) = false := by simp; omega
  have b2 : decide ((256 : Int) < n) = false := by simp; omega
  go_enter Tryd.func15, Tryd.ntmps15
  go_wp2_with fail
  refine name_world (fun W => SectM.NewAt w w.heap.size (.slice none 0 0) 0 W) ⟨(Below.refl _ _).alloc (Nat.le_refl _) _, Blk.new _ _ _, World.ownsRow_nil _ _ _ _⟩ ?_
  rintro W hW
  have HW := box hW
  clear hW
  obtain ⟨D, HD⟩ : ∃ D, Box (w.heap.size = D) := ⟨_, ⟨rfl⟩⟩
  rw [HD.out] at HW ⊢
  go_loopw [14] (fun t14 wr => ∃ k vs, k ≤ n ∧ t14 = .int .i64 (k : Int) ∧ Box (SectM.NewAt w D vs k wr)) (fun t14 _ => n - (RowKit.intOf t14).toNat)
  case atStart => exact ⟨0, _, Nat.zero_le _, rfl, HW⟩
  case round =>
    obtain ⟨k, vs, hk, rfl, HA⟩ := hrel
    have hDlt := HA.out.blk.lt
    have c0 := HA.out.blk.cell (i := 0) rfl
    by_cases hlt : k < n
    · go_upto_region 6 with (fail)
      obtain ⟨PV, HPV⟩ : ∃ PV : Nat → Option Value, Box (PV = fun i => ([some (.pointer (some ⟨D, 0, none⟩)), some (.pointer (some ⟨D, 0, none⟩)), some (.pointer (some ⟨D, 0, none⟩)), some (.pointer (some ⟨D, 0, none⟩)), some (vs), none, none, none, some (.pointer (some ⟨D, 0, none⟩)), some (.pointer (some ⟨D, 0, none⟩)), none] : List (Option Value)).getD i none) := ⟨_, ⟨rfl⟩⟩
      refine wp_region_dagv (by kernel_rfl) (fun Lf vals wx => (∀ i v, PV i = some v → Lf.getD i false = true → vals i = v) ∧ SectM.NewS w D vs k (Lf.getD 5 false) (Lf.getD 6 false) (Lf.getD 7 false) (Lf.getD 10 false) (vals 5) (vals 6) (vals 7) wx) (by kernel_rfl) ?_ ?_ ?_
      · refine ⟨fun i v _ h => absurd h (by simp [Array.getD_eq_getD_getElem?, Array.getElem?_replicate]; try (split <;> simp)), ?_⟩
        simp only [Array.getD_eq_getD_getElem?, Array.getElem?_replicate, List.size_toArray, List.length_cons, List.length_nil, Nat.reduceAdd, Nat.reduceLT, if_true, Option.getD_some]
        exact ⟨HA.out.below.drew, HA.out.blk.drew, fun _ => HA.out.own.drew, fun h => (by cases h), fun h => (by cases h), fun h => (by cases h)⟩
      · intro i hi o ho Lf vals b wx hat haft hL hR
        obtain ⟨hP, hS⟩ := hR
        have hco := hat.const
        have hkeep : ∀ i v, (PV i = some v ∨ PV i = none) → Lf.getD i true = false → (∀ j u, PV j = some u → (Lf.setIfInBounds i true).getD j false = true → Dag.turn vals i v j = u) := fun i v hv hL j u hu hj => by
          by_cases e : j = i
          · subst e; rw [Dag.turn_same]; rcases hv with hv | hv <;> rw [hv] at hu <;> simp at hu; exact hu
          · rw [Dag.turn_other _ _ e]; rw [getD_set_ne false (Ne.symm e)] at hj; exact hP j u hu hj
        have r4 : b.eval (.tmp 4) = .pointer (some ⟨D, 0, none⟩) := hat.old 4 (by
          intro j o' hj
          match j with
          | 0 | 1 | 2 | 3 | 4 | 5 | 6 | 7 | 8 | 9 | 10 => injection hj with hj; subst hj; simp
          | j + 11 => cases hj)
        match i, hi with
        | 0, _ =>
          injection ho with ho
          subst ho
          refine Dag.yields (w' := wx) (.pointer (some ⟨D, 0, none⟩)) ?_ ⟨.pointer (some ⟨D, 0, none⟩), rfl, hkeep 0 _ (Or.inl (by rw [HPV.out]; rfl)) hL, ?_⟩
          · clear hP hS hat haft hkeep hL
            generalize b.eval = ρ at *
            go_simp
          · simp only [getD_set_ne false (show 0 ≠ 5 by decide), getD_set_ne false (show 0 ≠ 6 by decide), getD_set_ne false (show 0 ≠ 7 by decide), getD_set_ne false (show 0 ≠ 10 by decide), Dag.turn_other vals (i := 0) (j := 5) _ (by decide), Dag.turn_other vals (i := 0) (j := 6) _ (by decide), Dag.turn_other vals (i := 0) (j := 7) _ (by decide)]
            exact hS
        | 1, _ =>
          injection ho with ho
          subst ho
          refine Dag.yields (w' := wx) (.pointer (some ⟨D, 0, none⟩)) ?_ ⟨.pointer (some ⟨D, 0, none⟩), rfl, hkeep 1 _ (Or.inl (by rw [HPV.out]; rfl)) hL, ?_⟩
          · clear hP hS hat haft hkeep hL
            generalize b.eval = ρ at *
            go_simp
          · simp only [getD_set_ne false (show 1 ≠ 5 by decide), getD_set_ne false (show 1 ≠ 6 by decide), getD_set_ne false (show 1 ≠ 7 by decide), getD_set_ne false (show 1 ≠ 10 by decide), Dag.turn_other vals (i := 1) (j := 5) _ (by decide), Dag.turn_other vals (i := 1) (j := 6) _ (by decide), Dag.turn_other vals (i := 1) (j := 7) _ (by decide)]
            exact hS
        | 2, _ =>
          injection ho with ho
          subst ho
          have e17 : b.eval (.tmp 17) = .pointer (some ⟨D, 0, none⟩) := (hat.new 1 _ 17 (haft ⟨1, .data⟩ (by simp) rfl) rfl rfl).trans (hP 1 _ (by rw [HPV.out]; rfl) (haft ⟨1, .data⟩ (by simp) rfl))
          refine Dag.yields (w' := wx) (.pointer (some ⟨D, 0, none⟩)) ?_ ⟨.pointer (some ⟨D, 0, none⟩), rfl, hkeep 2 _ (Or.inl (by rw [HPV.out]; rfl)) hL, ?_⟩
          · clear hP hS hat haft hkeep hL
            generalize b.eval = ρ at *
            go_simp
          · simp only [getD_set_ne false (show 2 ≠ 5 by decide), getD_set_ne false (show 2 ≠ 6 by decide), getD_set_ne false (show 2 ≠ 7 by decide), getD_set_ne false (show 2 ≠ 10 by decide), Dag.turn_other vals (i := 2) (j := 5) _ (by decide), Dag.turn_other vals (i := 2) (j := 6) _ (by decide), Dag.turn_other vals (i := 2) (j := 7) _ (by decide)]
            exact hS
        | 3, _ =>
          injection ho with ho
          subst ho
          have e18 : b.eval (.tmp 18) = .pointer (some ⟨D, 0, none⟩) := (hat.new 2 _ 18 (haft ⟨2, .data⟩ (by simp) rfl) rfl rfl).trans (hP 2 _ (by rw [HPV.out]; rfl) (haft ⟨2, .data⟩ (by simp) rfl))
          refine Dag.yields (w' := wx) (.pointer (some ⟨D, 0, none⟩)) ?_ ⟨.pointer (some ⟨D, 0, none⟩), rfl, hkeep 3 _ (Or.inl (by rw [HPV.out]; rfl)) hL, ?_⟩
          · clear hP hS hat haft hkeep hL
            generalize b.eval = ρ at *
            go_simp
          · simp only [getD_set_ne false (show 3 ≠ 5 by decide), getD_set_ne false (show 3 ≠ 6 by decide), getD_set_ne false (show 3 ≠ 7 by decide), getD_set_ne false (show 3 ≠ 10 by decide), Dag.turn_other vals (i := 3) (j := 5) _ (by decide), Dag.turn_other vals (i := 3) (j := 6) _ (by decide), Dag.turn_other vals (i := 3) (j := 7) _ (by decide)]
            exact hS
        | 4, _ =>
          injection ho with ho
          subst ho
          have e19 : b.eval (.tmp 19) = .pointer (some ⟨D, 0, none⟩) := (hat.new 3 _ 19 (haft ⟨3, .data⟩ (by simp) rfl) rfl rfl).trans (hP 3 _ (by rw [HPV.out]; rfl) (haft ⟨3, .data⟩ (by simp) rfl))
          have h7 : Lf.getD 7 false = false := by
            cases h : Lf.getD 7 false with
            | false => rfl
            | true => have := hat.closed 7 _ h rfl ⟨4, .data⟩ (by simp) rfl; rw [Dag.off hL] at this; cases this
          have h10 : Lf.getD 10 false = false := by
            cases h : Lf.getD 10 false with
            | false => rfl
            | true => have := hat.closed 10 _ h rfl ⟨7, .data⟩ (by simp) rfl; rw [h7] at this; cases this
          rw [h10] at hS
          have c0 := hS.blk.cell (i := 0) rfl
          have g0 : (if (false : Bool) = true then vals 7 else vs) = vs := by simp
          rw [g0] at c0
          refine Dag.yields (w' := wx) vs ?_ ⟨vs, rfl, hkeep 4 _ (Or.inl (by rw [HPV.out]; rfl)) hL, ?_⟩
          · clear hP hS hat haft hkeep hL g0
            generalize b.eval = ρ at *
            go_simp
          simp only [getD_set_ne false (show 4 ≠ 5 by decide), getD_set_ne false (show 4 ≠ 6 by decide), getD_set_ne false (show 4 ≠ 7 by decide), getD_set_ne false (show 4 ≠ 10 by decide), Dag.turn_other vals (i := 4) (j := 5) _ (by decide), Dag.turn_other vals (i := 4) (j := 6) _ (by decide), Dag.turn_other vals (i := 4) (j := 7) _ (by decide)]
          rw [h10]
          exact hS
        | 5, _ =>
          injection ho with ho
          subst ho
          refine Dag.calls (w' := wx) (f := 25) (args := #[.string ⟨#[0]⟩, .int .i64 64]) ?_ (fun v w'' => v = .string SectM.blank ∧ Below wx.heap.size wx w'') ?_ ?_
          · have ef : b.eval (.func 25) = .func (.func 25) #[] #[] := rfl
            clear hP hS hat haft hkeep hL
            generalize b.eval = ρ at *
            go_simp
          · refine (repeat_zeros 64 wx (by omega)).mono ?_
            rintro e w'' ⟨rfl, hb⟩
            exact ⟨_, rfl, rfl, hb⟩
          · rintro v w'' ⟨rfl, hb⟩
            refine ⟨_, rfl, hkeep 5 _ (Or.inr (by rw [HPV.out]; rfl)) hL, ?_⟩
            have h6 : Lf.getD 6 false = false := by
              cases h : Lf.getD 6 false with
              | false => rfl
              | true => have := hat.closed 6 _ h rfl ⟨5, .data⟩ (by simp) rfl; rw [Dag.off hL] at this; cases this
            have h7 : Lf.getD 7 false = false := by
              cases h : Lf.getD 7 false with
              | false => rfl
              | true => have := hat.closed 7 _ h rfl ⟨6, .data⟩ (by simp) rfl; rw [h6] at this; cases this
            rw [Dag.on hL]
            simp only [getD_set_ne false (show 5 ≠ 6 by decide), getD_set_ne false (show 5 ≠ 7 by decide), getD_set_ne false (show 5 ≠ 10 by decide), Dag.turn_same, Dag.turn_other vals (i := 5) (j := 6) _ (by decide), Dag.turn_other vals (i := 5) (j := 7) _ (by decide)]
            rw [h7] at hS ⊢
            exact hS.call hb
        | 6, _ =>
          injection ho with ho
          subst ho
          have e21 : b.eval (.tmp 21) = vals 5 := hat.new 5 _ 21 (haft ⟨5, .data⟩ (by simp) rfl) rfl rfl
          have l5 : Lf.getD 5 false = true := haft ⟨5, .data⟩ (by simp) rfl
          have hv5 := hS.str l5
          refine Dag.yields (w' := wx.alloc (.cells #[.string SectM.blank] 9)) (.slice (some ⟨wx.heap.size, 0, none⟩) 1 1) ?_ ⟨_, rfl, hkeep 6 _ (Or.inr (by rw [HPV.out]; rfl)) hL, ?_⟩
          · rw [hv5] at e21
            clear hP hS hat haft hkeep hL hv5
            generalize b.eval = ρ at *
            go_simp
          rw [Dag.on hL]
          simp only [getD_set_ne false (show 6 ≠ 5 by decide), getD_set_ne false (show 6 ≠ 7 by decide), getD_set_ne false (show 6 ≠ 10 by decide), Dag.turn_same, Dag.turn_other vals (i := 6) (j := 5) _ (by decide), Dag.turn_other vals (i := 6) (j := 7) _ (by decide)]
          exact hS.lay
        | 7, _ =>
          injection ho with ho
          subst ho
          have e20 : b.eval (.tmp 20) = vs := (hat.new 4 _ 20 (haft ⟨4, .data⟩ (by simp) rfl) rfl rfl).trans (hP 4 _ (by rw [HPV.out]; rfl) (haft ⟨4, .data⟩ (by simp) rfl))
          have e22 : b.eval (.tmp 22) = vals 6 := hat.new 6 _ 22 (haft ⟨6, .data⟩ (by simp) rfl) rfl rfl
          have l6 : Lf.getD 6 false = true := haft ⟨6, .data⟩ (by simp) rfl
          have h10 : Lf.getD 10 false = false := by
            cases h : Lf.getD 10 false with
            | false => rfl
            | true => have := hat.closed 10 _ h rfl ⟨7, .data⟩ (by simp) rfl; rw [Dag.off hL] at this; cases this
          rw [l6, h10, Dag.off hL] at hS
          obtain ⟨bb, hv6, hB⟩ := hS.lit rfl rfl
          rw [hv6] at e22
          have hown := hS.own rfl
          refine wp_append_lies wx _ _ 22 rfl D 9 i0 (.string ByteArray.empty) 1 16 Tryd.underlying22 hi0 hz0 hz1 hz2 rfl (by decide) vs k (strVals (SectM.blanks k)) e20 hown ⟨bb, 0, none⟩ 1 1 [.string SectM.blank] e22 rfl (fun j u hu => by rw [Addr.add_lit, Nat.zero_add]; exact hB.cell hu) (by simp [Value.oneCell']) (by omega) (by unfold maxLen; omega) (by omega) (Nat.le_of_lt hS.blk.lt) _ rfl ?_
          intro g gc w'' ho2 hg2 hatg hltg
          have happ := hS.app ho2 hg2
          refine ⟨_, rfl, hkeep 7 _ (Or.inr (by rw [HPV.out]; rfl)) hL, ?_⟩
          rw [Dag.on hL]
          simp only [getD_set_ne false (show 7 ≠ 5 by decide), getD_set_ne false (show 7 ≠ 6 by decide), getD_set_ne false (show 7 ≠ 10 by decide), Dag.turn_same, Dag.turn_other vals (i := 7) (j := 5) _ (by decide), Dag.turn_other vals (i := 7) (j := 6) _ (by decide)]
          rw [l6, h10]
          exact happ
        | 8, _ =>
          injection ho with ho
          subst ho
          have e16 : b.eval (.tmp 16) = .pointer (some ⟨D, 0, none⟩) := (hat.new 0 _ 16 (haft ⟨0, .data⟩ (by simp) rfl) rfl rfl).trans (hP 0 _ (by rw [HPV.out]; rfl) (haft ⟨0, .data⟩ (by simp) rfl))
          refine Dag.yields (w' := wx) (.pointer (some ⟨D, 0, none⟩)) ?_ ⟨.pointer (some ⟨D, 0, none⟩), rfl, hkeep 8 _ (Or.inl (by rw [HPV.out]; rfl)) hL, ?_⟩
          · clear hP hS hat haft hkeep hL
            generalize b.eval = ρ at *
            go_simp
          · simp only [getD_set_ne false (show 8 ≠ 5 by decide), getD_set_ne false (show 8 ≠ 6 by decide), getD_set_ne false (show 8 ≠ 7 by decide), getD_set_ne false (show 8 ≠ 10 by decide), Dag.turn_other vals (i := 8) (j := 5) _ (by decide), Dag.turn_other vals (i := 8) (j := 6) _ (by decide), Dag.turn_other vals (i := 8) (j := 7) _ (by decide)]
            exact hS
        | 9, _ =>
          injection ho with ho
          subst ho
          have e24 : b.eval (.tmp 24) = .pointer (some ⟨D, 0, none⟩) := (hat.new 8 _ 24 (haft ⟨8, .data⟩ (by simp) rfl) rfl rfl).trans (hP 8 _ (by rw [HPV.out]; rfl) (haft ⟨8, .data⟩ (by simp) rfl))
          refine Dag.yields (w' := wx) (.pointer (some ⟨D, 0, none⟩)) ?_ ⟨.pointer (some ⟨D, 0, none⟩), rfl, hkeep 9 _ (Or.inl (by rw [HPV.out]; rfl)) hL, ?_⟩
          · clear hP hS hat haft hkeep hL
            generalize b.eval = ρ at *
            go_simp
          · simp only [getD_set_ne false (show 9 ≠ 5 by decide), getD_set_ne false (show 9 ≠ 6 by decide), getD_set_ne false (show 9 ≠ 7 by decide), getD_set_ne false (show 9 ≠ 10 by decide), Dag.turn_other vals (i := 9) (j := 5) _ (by decide), Dag.turn_other vals (i := 9) (j := 6) _ (by decide), Dag.turn_other vals (i := 9) (j := 7) _ (by decide)]
            exact hS
        | 10, _ =>
          injection ho with ho
          subst ho
          have e25 : b.eval (.tmp 25) = .pointer (some ⟨D, 0, none⟩) := (hat.new 9 _ 25 (haft ⟨9, .data⟩ (by simp) rfl) rfl rfl).trans (hP 9 _ (by rw [HPV.out]; rfl) (haft ⟨9, .data⟩ (by simp) rfl))
          have e23 : b.eval (.tmp 23) = vals 7 := hat.new 7 _ 23 (haft ⟨7, .data⟩ (by simp) rfl) rfl rfl
          have l7 : Lf.getD 7 false = true := haft ⟨7, .data⟩ (by simp) rfl
          have l6 : Lf.getD 6 false = true := hat.closed 7 _ l7 rfl ⟨6, .data⟩ (by simp) rfl
          rw [l6, l7, Dag.off hL] at hS
          obtain ⟨va, vc, hv7, ho7⟩ := hS.own7 rfl
          have c0 := hS.blk.cell (i := 0) rfl
          have f0 := hS.blk.frozen 0
          have hput := hS.put
          rw [hv7] at e23 hput
          refine Dag.skips (w' := wx.setCell ⟨D, 0, none⟩ (.slice va (k + 1) vc)) ?_ ⟨_, rfl, hkeep 10 _ (Or.inr (by rw [HPV.out]; rfl)) hL, ?_⟩
          · clear hP hS hat haft hkeep hL hv7 ho7 hput
            generalize b.eval = ρ at *
            go_simp
          rw [Dag.on hL]
          simp only [getD_set_ne false (show 10 ≠ 5 by decide), getD_set_ne false (show 10 ≠ 6 by decide), getD_set_ne false (show 10 ≠ 7 by decide), Dag.turn_other vals (i := 10) (j := 5) _ (by decide), Dag.turn_other vals (i := 10) (j := 6) _ (by decide), Dag.turn_other vals (i := 10) (j := 7) _ (by decide)]
          rw [l6, l7, hv7]
          exact hput
        | i + 11, h => exact absurd h (by simp)
      · intro Lf vals wx hall hR
        obtain ⟨hP, hS⟩ := hR
        simp only [hall 5 (by simp), hall 6 (by simp), hall 7 (by simp), hall 10 (by simp)] at hS
        obtain ⟨a, c, hv7, ho7⟩ := hS.own7 rfl
        obtain ⟨va, Hva⟩ : ∃ x, Box (vals 7 = x) := ⟨_, ⟨rfl⟩⟩
        rw [Hva.out] at hS ho7 hv7
        have HX : Box (SectM.NewAt w D va (k + 1) wx) := ⟨hS.below, by simpa using hS.blk, ho7⟩
        simp only [Dag.all, List.size_toArray, List.length_cons, List.length_nil, Nat.reduceAdd, Act.put, List.getElem?_toArray, List.getElem?_cons_zero, List.getElem?_cons_succ, Option.bind_some, List.setIfInBounds_toArray, List.set_cons_zero, List.set_cons_succ]
        clear hP hS hall hv7 ho7
        go_wp2_with fail
        go_roundw
        case rel => exact ⟨k + 1, va, by omega, by go_num, HX⟩
        case measure => simp [RowKit.intOf]; omega
    · obtain rfl : k = n := by omega
      obtain ⟨gs, cs, rfl, hg1, hg2, hcs⟩ := ownsRow_shape HA.out.own (by rintro rfl; rcases HA.out.own.2 with ⟨_, h3⟩ | ⟨_, _, _, h3, _⟩ <;> first | omega | cases h3)
      have hX := World.ownsRow_made (e := 9) (size := 1) (base := D) wr #[] 0 (Nat.le_of_lt hDlt) (by decide) rfl
      have HA2 := box (show SectM.NewAt w D (.slice (some ⟨gs, 0, none⟩) k cs) k (wr.alloc (.cells #[] 9)) from ⟨HA.out.below.alloc (Nat.le_of_lt hDlt) _, HA.out.blk.alloc _, HA.out.own.alloc _⟩)
      have HCs : Box (∀ j u, (strVals (SectM.blanks k))[j]? = some u → (wr.alloc (.cells #[] 9)).cell? ((⟨gs, 0, none⟩ : Addr).add j) = some u) := ⟨fun j u hu => HA2.out.own.cells (g := gs) rfl j u hu⟩
      have hL : (strVals (SectM.blanks k)).length = k * 1 := by rw [strVals_length]; unfold SectM.blanks; simp
      have HL := box hL
      clear hL
      go_wp2_with (at_builtin; go_must (refine wpList_append_own_at _ rfl _ _ 22 rfl D 9 i0 _ 1 16 Tryd.underlying22 hi0 hz0 hz1 hz2 rfl (by decide) _ _ _ rfl hX ⟨gs, 0, none⟩ k cs (strVals (SectM.blanks k)) rfl HL.out HCs.out (strVals_oneCell _) (by unfold maxLen; omega) (by omega) (by simp; omega) ?_))
      intro ve' w4 hown4 hgrow4 _ hat4
      obtain ⟨ge, ce, rfl, hg3, hg4, hce⟩ := ownsRow_shape hown4 (by rintro rfl; rcases hown4.2 with ⟨_, h3⟩ | ⟨_, _, _, h3, _⟩ <;> first | omega | cases h3)
      have hgr : (wr.alloc (.cells #[] 9)).grownBy w4 (some wr.heap.size) := hgrow4
      have hge : ge = wr.heap.size ∨ ge = wr.heap.size + 1 := by
        rcases hat4 with h4 | h4
        · left; simpa [Value.ownBlock] using h4
        · right; simpa [Value.ownBlock] using h4
      have HB4 : Box (Below D w w4) := ⟨HA2.out.below.grown hgr (by simp; omega) (fun j hj => by injection hj with hj; omega)⟩
      have HD4 : Box (Blk w4 D 59 [.slice (some ⟨gs, 0, none⟩) k cs, .slice none 0 0, .slice none 0 0, .int .i64 (-1)]) := ⟨HA2.out.blk.grown hgr (by simp; omega)⟩
      have HS4 : Box (w4.ownsRow D 9 1 (.slice (some ⟨gs, 0, none⟩) k cs) k (strVals (SectM.blanks k))) := ⟨HA2.out.own.kept hgr (Or.inr (by simp [Value.ownBlock]; omega))⟩
      have HE4 := box hown4
      have x1 := HD4.out.cell (i := 1) rfl
      have z1 := HD4.out.frozen 1
      clear hown4 hgrow4 hgr hX hat4
      go_wp2_with fail
      go_ret2
      have hdo : ∀ {v : Value} {m : Nat} {xs : List Value}, w4.ownsRow D 9 1 v m xs → (w4.setCell ⟨D, 1, none⟩ (.slice (some ⟨ge, 0, none⟩) k ce)).ownsRow D 9 1 v m xs := fun ho => ownsRow_setCell_other (a := ⟨D, 1, none⟩) ho (HD4.out.ne_own ho (by decide)) _
      have hsz : (SectM.blanks k).length = k := by unfold SectM.blanks; simp
      have HD' := HD.out
      subst HD'
      refine ⟨HB4.out.setCell (by simp) _, _, _, rfl, ⟨HD4.out.set 1 _, Nat.le_refl _, ?_, ?_, World.ownsRow_nil _ _ _ _, fun g hg h2 => ?_, by show -1 ≤ (-1 : Int) ∧ (-1 : Int) ≤ _; omega⟩⟩
      · show (w4.setCell _ _).ownsRow _ _ 1 _ (SectM.blanks k).length (strVals (SectM.blanks k))
        rw [hsz]; exact hdo HS4.out
      · show (w4.setCell _ _).ownsRow _ _ 1 _ (SectM.blanks k).length (strVals (SectM.blanks k))
        rw [hsz]; exact hdo HE4.out
      · simp only [Value.ownBlock, Option.some.injEq] at hg h2
        omega
end Go.Proofs.YtpeaefeoogcepaaDoor
