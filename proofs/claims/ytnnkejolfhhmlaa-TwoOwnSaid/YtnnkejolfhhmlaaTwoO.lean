/- two.Play: what it leaves, opened. -/
import Derived.Test.YtnnkejolfhhmlaaTwoQ4
import Derived.Test.YtnnkejolfhhmlaaTwoL
import Derived.Test.YtnnkejolfhhmlaaVicM
import Derived.Test.YtnnkejolfhhmlaaRunCheck
import Derived.Test.YtnnkejolfhhmlaaLkDropW
import Derived.Test.YtnnkejolfhhmlaaChkI
namespace Go.Proofs.Ytnnkejolfhhmlaa
section
open Go.RowKit Go.Lib

open TwoM in
theorem two_specs : ∀ m : Nat, TakeSpec m ∧ WakeSpec m ∧ DropSpec m
  | 0 => by
    have hw : WakeSpec 0 := by
      intro B Tb w s v o r j G p h hAt hl hj hI ht hm
      have := lates_wake (s := s) hj hl
      omega
    refine ⟨?_, hw, tdrop_any 0 hw⟩
    intro B Tb w s v o j G p h hAt hj hb hI ht hm
    omega
  | m + 1 => by
    obtain ⟨h1, _, h3⟩ := two_specs m
    have hw := wake_any m h1
    exact ⟨ttake_any m (tfree_any m h3) h3, hw, tdrop_any (m + 1) hw⟩
open TwoM in
/-- take does what Take says. -/
theorem take_is (B Tb : Nat) (w : World) (s : S) (v : Nat → Value) (o : OpM) (j : Nat) (G : List Int) (p h : Nat → List OpM) (h1 : At w B Tb s v) (h2 : o.tx = (j : Int)) (h3 : RunM.bad o = 0) (h4 : Inv s G (upd p j (o :: p j)) h) (h5 : total h ≤ 200) :
    Calls Try.prog 14 #[.pointer (some ⟨Tb, 0, none⟩), .agg #[.int .i64 o.tx, .int .i64 o.kind, .int .i64 o.item]] w (Post B Tb (Take s o) v w) :=
  (two_specs (lates s + 1)).1 B Tb w s v o j G p h h1 h2 h3 h4 h5 (Nat.le_refl _)
end
section
open Go.RowKit Go.Lib

namespace TwoM
open LkM
theorem two_start {w w' : World} {s : S} (hl : s.locks = []) (h1 : ∀ i, s.late i = []) (h2 : ∀ i, s.dead i = false) (ho : s.out = []) (hb : Blk w' w.heap.size 45 (Tab 26 fun c => if c < 13 then .slice none 0 0 else if c < 25 then .bool false else .slice none 0 0)) : TwoW w' w.heap.size w.heap.size s (fun _ => .slice none 0 0) none 0 (w.heap.size + 1) w' := by
  refine ⟨?_, ⟨fun i hi => ?_, fun i j _ _ _ b hb => (by cases hb)⟩, (by rw [hl]; exact Or.inl rfl), fun b _ _ => rfl, Nat.le_refl _, fun i _ b hb => (by cases hb), Or.inl (by omega), Nat.le_refl _⟩
  · rw [show Tab 26 (cellF s (fun _ => .slice none 0 0) none 0) = Tab 26 (fun c => if c < 13 then .slice none 0 0 else if c < 25 then .bool false else .slice none 0 0) from Tab_congr fun c hc => by
      unfold cellF
      rw [hl]
      by_cases e0 : c = 0
      · rw [if_pos e0, if_pos (by omega)]; rfl
      · rw [if_neg e0]
        by_cases e1 : c < 13
        · rw [if_pos e1, if_pos e1]
        · rw [if_neg e1, if_neg e1]
          by_cases e2 : c < 25
          · rw [if_pos e2, if_pos e2, h2]
          · rw [if_neg e2, if_neg e2]]
    exact hb
  · have : rows s i = [] := by unfold rows; split <;> simp [ho, h1]
    rw [this]
    exact World.ownsRow_nil _ _ _ _
end TwoM
end
section
namespace TwoM
open LkM
/-- Those below n of whom p holds. -/
def pick (p : Nat → Bool) (n : Nat) : List Int := ((List.range n).filter p).map fun k : Nat => (k : Int)
theorem pick_succ (p : Nat → Bool) (n : Nat) : pick p (n + 1) = pick p n ++ if p n then [(n : Int)] else [] := by
  unfold pick
  rw [List.range_succ, List.filter_append, List.map_append]
  congr 1
  by_cases h : p n = true <;> simp [h]
theorem pick_len (p : Nat → Bool) (n : Nat) : (pick p n).length ≤ n := by
  unfold pick
  rw [List.length_map]
  exact Nat.le_trans (List.length_filter_le _ _) (by simp)
theorem mem_pick {p : Nat → Bool} {n j : Nat} : (j : Int) ∈ pick p n ↔ j < n ∧ p j = true := by
  unfold pick
  rw [List.mem_map]
  constructor
  · rintro ⟨k, hk, e⟩
    obtain rfl : k = j := by omega
    rw [List.mem_filter, List.mem_range] at hk
    exact hk
  · intro h
    exact ⟨j, List.mem_filter.2 ⟨List.mem_range.2 h.1, h.2⟩, rfl⟩
def isLate (s : S) (k : Nat) : Bool := decide (0 < (s.late k).length)
theorem Take.is_ok {s s' : S} {o : OpM} {j : Nat} (h : Take s o s') (hj : o.tx = j) (hd : s.dead j = false) (hl : s.late j = []) (hk : o.kind < 3) (ha : (askIn o.item ⟨j, mode o⟩ s.locks).2 = true) :
    s' = { s with locks := (askIn o.item ⟨j, mode o⟩ s.locks).1, out := s.out ++ [o] } := by
  cases h with
  | @dead _ _ i h1 h2 => obtain rfl : i = j := by omega
                         rw [hd] at h2; cases h2
  | @late _ _ i h1 h2 h3 => obtain rfl : i = j := by omega
                            exact absurd hl h3
  | @ends _ _ _ i h1 h2 h3 h4 _ => omega
  | @ok _ _ i h1 h2 h3 h4 h5 => obtain rfl : i = j := by omega
                                rfl
  | @wait _ _ _ i h1 h2 h3 h4 h5 _ => obtain rfl : i = j := by omega
                                      rw [ha] at h5; cases h5
theorem Take.is_wait {s s' : S} {o : OpM} {j : Nat} (h : Take s o s') (hj : o.tx = j) (hd : s.dead j = false) (hl : s.late j = []) (hk : o.kind < 3) (ha : (askIn o.item ⟨j, mode o⟩ s.locks).2 = false) :
    Free { s with locks := (askIn o.item ⟨j, mode o⟩ s.locks).1, late := upd s.late j [o] } s' := by
  cases h with
  | @dead _ _ i h1 h2 => obtain rfl : i = j := by omega
                         rw [hd] at h2; cases h2
  | @late _ _ i h1 h2 h3 => obtain rfl : i = j := by omega
                            exact absurd hl h3
  | @ends _ _ _ i h1 h2 h3 h4 _ => omega
  | @ok _ _ i h1 h2 h3 h4 h5 => obtain rfl : i = j := by omega
                                rw [ha] at h5; cases h5
  | @wait _ _ _ i h1 h2 h3 h4 h5 h6 => obtain rfl : i = j := by omega
                                       exact h6
theorem Take.is_ends {s s' : S} {o : OpM} {j : Nat} (h : Take s o s') (hj : o.tx = j) (hd : s.dead j = false) (hl : s.late j = []) (hk : 3 ≤ o.kind) :
    Drops { s with out := s.out ++ [o] } j s' := by
  cases h with
  | @dead _ _ i h1 h2 => obtain rfl : i = j := by omega
                         rw [hd] at h2; cases h2
  | @late _ _ i h1 h2 h3 => obtain rfl : i = j := by omega
                            exact absurd hl h3
  | @ends _ _ _ i h1 h2 h3 h4 h5 => obtain rfl : i = j := by omega
                                    exact h5
  | @ok _ _ i h1 h2 h3 h4 h5 => omega
  | @wait _ _ _ i h1 h2 h3 h4 h5 h6 => omega
theorem Free.is_done {s s' : S} (h : Free s s') (ho : GrM.order 12 (waits s.locks) ≠ none) : s' = s := by
  cases h with
  | done _ => rfl
  | step h1 h2 _ _ =>
    have := (VicM.Vic.empty h1).2 ho
    subst this
    exact absurd h2.1 List.not_mem_nil
theorem Drops.one {s s' : S} {j i : Nat} {o : OpM} (h : Drops s j s') (hg : (drop s.locks j).2 = [(i : Int)]) (hl : s.late i = [o]) : s' = { s with locks := (drop s.locks j).1, late := upd s.late i [], out := s.out ++ [o] } := by
  cases h with
  | mk h =>
    rw [hg] at h
    generalize hG : [(i : Int)] = G at h
    cases h with
    | nil => cases hG
    | @cons _ s1 _ i' g o' r h1 h2 h3 =>
      injection hG with hG1 hG2
      obtain rfl : i = i' := by omega
      subst hG2
      rw [hl] at h1
      injection h1 with h4 h5
      subst h4; subst h5
      cases h2 with
      | nil =>
        cases h3 with
        | nil => rfl
theorem Drops.zero {s s' : S} {j : Nat} (h : Drops s j s') (hg : (drop s.locks j).2 = []) : s' = { s with locks := (drop s.locks j).1 } := by
  cases h with
  | mk h =>
    rw [hg] at h
    cases h with
    | nil => rfl
theorem vic_two {out : List Nat} (h : VicM.Vic 12 [⟨0, 1⟩, ⟨1, 0⟩] out) : out = [1] := by
  have hE : ∀ a b, GrM.E [⟨0, 1⟩, ⟨1, 0⟩] a b = true ↔ (a = 0 ∧ b = 1) ∨ (a = 1 ∧ b = 0) := fun a b => by
    rw [GrM.E_iff]; simp; omega
  have h1 : GrM.Path 12 [⟨0, 1⟩, ⟨1, 0⟩] 1 1 := .more (.one (by omega) ((hE 1 0).2 (by omega))) (by omega) ((hE 0 1).2 (by omega))
  have h2 : ∀ a b, GrM.Path 12 [⟨0, 1⟩, ⟨1, 0⟩] a b → b ≤ 1 := fun a b hp => by
    cases hp with
    | one _ h => have := (hE _ _).1 h; omega
    | more _ _ h => have := (hE _ _).1 h; omega
  cases h with
  | done h => exact absurd h1 (h 1)
  | @step _ k out h3 h4 h5 =>
    have h6 := h2 k k h3
    have h7 := h4 1 h1
    obtain rfl : k = 1 := by omega
    have hd : VicM.del ((1 : Nat) : Int) [⟨0, 1⟩, ⟨1, 0⟩] = [] := by decide
    rw [hd] at h5
    cases h5 with
    | done _ => rfl
    | step h8 _ _ =>
      obtain ⟨c, hc⟩ := VicM.path_out h8
      rw [GrM.E_iff] at hc
      cases hc
/-- Two that wait for each other. -/
def exD : List OpM := [⟨0, 2, 1⟩, ⟨1, 2, 2⟩, ⟨0, 2, 2⟩, ⟨1, 2, 1⟩]
theorem exD_is {s : S} (h : Takes start exD s) : pick s.dead 12 = [1] ∧ pick (isLate s) 12 = [] := by
  cases h with
  | cons h1 h => cases h with
  | cons h2 h => cases h with
  | cons h3 h => cases h with
  | cons h4 h => cases h with
  | nil =>
    obtain rfl := h1.is_ok (j := 0) rfl rfl rfl (by decide) (by decide)
    obtain rfl := h2.is_ok (j := 1) rfl rfl rfl (by decide) (by decide)
    have h3 := h3.is_wait (j := 0) rfl rfl rfl (by decide) (by decide)
    obtain rfl := h3.is_done (by decide)
    have h4 := h4.is_wait (j := 1) rfl rfl rfl (by decide) (by decide)
    cases h4 with
    | done h =>
      exact absurd ((VicM.Vic.empty h).1 rfl) (by decide)
    | @step _ s1 _ out k g1 g2 g3 g4 =>
      have hw : waits (askIn 1 ⟨1, 5⟩ (askIn 2 ⟨0, 5⟩ (askIn 2 ⟨1, 5⟩ (askIn 1 ⟨0, 5⟩ []).1).1).1).1 = [⟨0, 1⟩, ⟨1, 0⟩] := by decide
      have g5 : VicM.Vic 12 (waits (askIn 1 ⟨1, 5⟩ (askIn 2 ⟨0, 5⟩ (askIn 2 ⟨1, 5⟩ (askIn 1 ⟨0, 5⟩ []).1).1).1).1) out := g1
      rw [hw] at g5
      obtain rfl := vic_two g5
      obtain rfl : k = 1 := List.mem_singleton.1 g2.1
      obtain rfl := g3.one (i := 0) (o := ⟨0, 2, 2⟩) (by decide) rfl
      obtain rfl := g4.is_done (by decide)
      decide
def exL : List OpM := [⟨0, 2, 1⟩, ⟨1, 1, 1⟩]
theorem exL_is {s : S} (h : Takes start exL s) : pick (isLate s) 12 = [1] := by
  cases h with
  | cons h1 h => cases h with
  | cons h2 h => cases h with
  | nil =>
    obtain rfl := h1.is_ok (j := 0) rfl rfl rfl (by decide) (by decide)
    have h3 := h2.is_wait (j := 1) rfl rfl rfl (by decide) (by decide)
    obtain rfl := h3.is_done (by decide)
    decide
def exS : List OpM := [⟨0, 2, 1⟩, ⟨1, 1, 1⟩, ⟨0, 3, 0⟩, ⟨1, 3, 0⟩]
theorem exS_is {s : S} (h : Takes start exS s) : s.out = [⟨0, 2, 1⟩, ⟨0, 3, 0⟩, ⟨1, 1, 1⟩, ⟨1, 3, 0⟩] := by
  cases h with
  | cons h1 h => cases h with
  | cons h2 h => cases h with
  | cons h3 h => cases h with
  | cons h4 h => cases h with
  | nil =>
    obtain rfl := h1.is_ok (j := 0) rfl rfl rfl (by decide) (by decide)
    have h2 := h2.is_wait (j := 1) rfl rfl rfl (by decide) (by decide)
    obtain rfl := h2.is_done (by decide)
    have h3 := h3.is_ends (j := 0) rfl rfl rfl (by decide)
    obtain rfl := h3.one (i := 1) (o := ⟨1, 1, 1⟩) (by decide) rfl
    have h4 := h4.is_ends (j := 1) rfl rfl rfl (by decide)
    obtain rfl := h4.zero (by decide)
    rfl
def exO : List OpM := [⟨0, 1, 1⟩]
theorem exO_is {s : S} (h : Takes start exO s) : s.out = [⟨0, 1, 1⟩] := by
  cases h with
  | cons h1 h => cases h with
  | nil =>
    obtain rfl := h1.is_ok (j := 0) rfl rfl rfl (by decide) (by decide)
    rfl
end TwoM
end
section
open Go.RowKit Go.Lib

namespace TwoM
/-- The answer lies in block P, its rows of numbers behind that. -/
structure PlW (W2 : World) (P : Nat) (rv : Value) (ds ls : List Int) (dv lv : Value) (W : World) : Prop where
  size : W2.heap.size = P
  blk : Blk W P 25 [rv, dv, lv]
  own1 : W.ownsRow (P + 1) 3 1 dv ds.length (intVals ds)
  own2 : W.ownsRow (P + 1) 3 1 lv ls.length (intVals ls)
  ap : ∀ b, dv.ownBlock = some b → lv.ownBlock ≠ some b
  below : Below P W2 W
section
variable {W2 W w7 : World} {P g gc : Nat} {rv dv lv : Value} {ds ls : List Int}
theorem PlW.after (h : PlW W2 P rv ds ls dv lv W) (o : Obj) : PlW W2 P rv ds ls dv lv (W.alloc o) :=
  ⟨h.size, h.blk.alloc o, h.own1.alloc o, h.own2.alloc o, h.ap, h.below.alloc (by have := h.below.size; have := h.size; omega) o⟩
theorem PlW.ne1 (h : PlW W2 P rv ds ls dv lv W) : dv.ownBlock ≠ some P := fun e => by have := (h.own1.lt P e).1; omega
theorem PlW.ne2 (h : PlW W2 P rv ds ls dv lv W) : lv.ownBlock ≠ some P := fun e => by have := (h.own2.lt P e).1; omega
theorem PlW.push1 (h : PlW W2 P rv ds ls dv lv W) {k : Int} (ho : w7.ownsRow (P + 1) 3 1 (.slice (some ⟨g, 0, none⟩) (ds.length + 1) gc) (ds.length + 1) (intVals ds ++ [.int .i64 k])) (hg : W.grownBy w7 dv.ownBlock) (hat : dv.ownBlock = some g ∨ W.heap.size ≤ g) :
    Blk w7 P 25 [rv, dv, lv] ∧ PlW W2 P rv (ds ++ [k]) ls (.slice (some ⟨g, 0, none⟩) (ds.length + 1) gc) lv (w7.setCell ⟨P, 1, none⟩ (.slice (some ⟨g, 0, none⟩) (ds.length + 1) gc)) := by
  have hb := h.blk.grown hg h.ne1
  have k2 := h.own2.kept hg (by
    by_cases e : lv.ownBlock = none
    · exact Or.inl e
    · right
      intro e2
      obtain ⟨b, hb⟩ := Option.ne_none_iff_exists'.1 e
      exact h.ap b (e2 ▸ hb) hb)
  have hgP : g ≠ P := by
    have := (ho.lt g rfl).1
    omega
  refine ⟨hb, h.size, hb.set 1 _, ?_, ownsRow_setCell_other k2 h.ne2 _, fun b e e2 => ?_, (h.below.grown hg (by have := h.below.size; have := h.size; omega) (fun b hb => by have := (h.own1.lt b hb).1; omega)).setCell (Nat.le_refl _) _⟩
  · have : w7.ownsRow (P + 1) 3 1 (.slice (some ⟨g, 0, none⟩) (ds.length + 1) gc) (ds ++ [k]).length (intVals (ds ++ [k])) := by
      rw [intVals_append, List.length_append]; exact ho
    exact ownsRow_setCell_other this (fun e => hgP (by simpa [Value.ownBlock] using e)) _
  · obtain rfl : g = b := by simpa [Value.ownBlock] using e
    rcases hat with hat | hat
    · exact h.ap g hat e2
    · have := (h.own2.lt g e2).2; omega
theorem PlW.push2 (h : PlW W2 P rv ds ls dv lv W) {k : Int} (ho : w7.ownsRow (P + 1) 3 1 (.slice (some ⟨g, 0, none⟩) (ls.length + 1) gc) (ls.length + 1) (intVals ls ++ [.int .i64 k])) (hg : W.grownBy w7 lv.ownBlock) (hat : lv.ownBlock = some g ∨ W.heap.size ≤ g) :
    Blk w7 P 25 [rv, dv, lv] ∧ PlW W2 P rv ds (ls ++ [k]) dv (.slice (some ⟨g, 0, none⟩) (ls.length + 1) gc) (w7.setCell ⟨P, 2, none⟩ (.slice (some ⟨g, 0, none⟩) (ls.length + 1) gc)) := by
  have hb := h.blk.grown hg h.ne2
  have k2 := h.own1.kept hg (by
    by_cases e : dv.ownBlock = none
    · exact Or.inl e
    · right
      intro e2
      obtain ⟨b, hb⟩ := Option.ne_none_iff_exists'.1 e
      exact h.ap b hb (e2 ▸ hb))
  have hgP : g ≠ P := by
    have := (ho.lt g rfl).1
    omega
  refine ⟨hb, h.size, hb.set 2 _, ownsRow_setCell_other k2 h.ne1 _, ?_, fun b e e2 => ?_, (h.below.grown hg (by have := h.below.size; have := h.size; omega) (fun b hb => by have := (h.own2.lt b hb).1; omega)).setCell (Nat.le_refl _) _⟩
  · have : w7.ownsRow (P + 1) 3 1 (.slice (some ⟨g, 0, none⟩) (ls.length + 1) gc) (ls ++ [k]).length (intVals (ls ++ [k])) := by
      rw [intVals_append, List.length_append]; exact ho
    exact ownsRow_setCell_other this (fun e => hgP (by simpa [Value.ownBlock] using e)) _
  · obtain rfl : g = b := by simpa [Value.ownBlock] using e2
    rcases hat with hat | hat
    · exact h.ap g e hat
    · have := (h.own1.lt g e).2; omega
end
/-- What Play leaves. -/
def PlayPost (l : List OpM) (w : World) (e : Ending) (w' : World) : Prop :=
  Below w.heap.size w w' ∧ ((RunM.check l ≠ 0 ∧ e = .returned (.tuple #[.agg #[.slice none 0 0, .slice none 0 0, .slice none 0 0], .int .i64 (RunM.check l)])) ∨
    (RunM.check l = 0 ∧ ∃ s rv dv lv, Takes start l s ∧ e = .returned (.tuple #[.agg #[rv, dv, lv], .int .i64 0]) ∧
      w'.ownsRow w.heap.size 30 3 rv s.out.length (opVals s.out) ∧ w'.ownsRow w.heap.size 3 1 dv (pick s.dead 12).length (intVals (pick s.dead 12)) ∧ w'.ownsRow w.heap.size 3 1 lv (pick (isLate s) 12).length (intVals (pick (isLate s) 12))))
/-- The operations of one's own, before the next one is taken. -/
theorem of_cons {o : OpM} {r : List OpM} {j : Nat} (hj : o.tx = j) : RunM.of (o :: r) = upd (RunM.of r) j (o :: RunM.of r j) := by
  funext i
  unfold RunM.of
  rw [List.filter_cons]
  by_cases e : i = j
  · subst e; rw [upd_same, if_pos (by simpa using hj)]
  · rw [upd_other _ _ e, if_neg (by simp; omega)]
/-- Where Play stands behind k operations. -/
def PlAt (l : List OpM) (W1 : World) (Tb k : Nat) (W : World) : Prop :=
  ∃ s v, (∀ s', Takes s (l.drop k) s' → Takes start l s') ∧ At W Tb Tb s v ∧ Inv s [] (RunM.of (l.drop k)) (RunM.of l) ∧ Below Tb W1 W
theorem PlAt.next {l : List OpM} {W1 W W' w8 : World} {Tb k : Nat} (hk : k < l.length) {s : S} {v : Nat → Value} (h1 : ∀ s', Takes s (l.drop k) s' → Takes start l s') (h3 : Inv s [] (RunM.of (l.drop k)) (RunM.of l)) (h4 : Below Tb W1 W) (hb : Below W.heap.size W W') (hT : Tb ≤ W.heap.size) {j : Nat} (hj : l[k].tx = j)
    {e : Ending} (hp : Post Tb Tb (Take s l[k]) v W' e w8) : e = .returned (.tuple #[]) ∧ PlAt l W1 Tb (k + 1) w8 := by
  obtain ⟨rfl, s', v', a, b, c⟩ := hp
  rw [List.drop_eq_getElem_cons hk, of_cons hj] at h3
  obtain ⟨i1, _, _⟩ := take_inv a hj h3
  exact ⟨rfl, s', v', fun s'' h => h1 s'' (by rw [List.drop_eq_getElem_cons hk]; exact .cons a h), b, i1, (h4.trans (hb.mono hT)).trans c.below⟩
end TwoM
end
section
open Go.RowKit Go.Lib

open TwoM in
set_option maxRecDepth 20000 in
set_option maxHeartbeats 16000000 in
theorem play_any (l : List OpM) (ao : Option Addr) (cap : Nat) (w : World) (h : OpsAt w ao l) (hf : RunM.Fits l) : Calls Try.prog 5 #[.slice ao l.length cap] w (PlayPost l w) := by
  obtain ⟨i0, hi0, hz0, hz1, hz2⟩ := info_parts Try.infoIntD
  have H := box h
  have HR := box (fun W (hb : Below w.heap.size w W) => runCheck_any l ao cap W (h.below hb (Nat.le_refl _)) hf)
  obtain ⟨c, HC⟩ : ∃ x, Box (RunM.check l = x) := ⟨_, ⟨rfl⟩⟩
  obtain ⟨N, HN⟩ : ∃ x, Box (l.length = x) := ⟨_, ⟨rfl⟩⟩
  have HBad : Box (∀ w', Below w.heap.size w w' → c ≠ 0 → PlayPost l w (.returned (.tuple #[.agg #[.slice none 0 0, .slice none 0 0, .slice none 0 0], .int .i64 c])) w') := ⟨fun w' hb hc => ⟨hb, Or.inl ⟨by rw [HC.out]; exact hc, by rw [HC.out]⟩⟩⟩
  have HGood : Box (c = 0 → ∀ w' s rv dv lv, Takes TwoM.start l s → w'.ownsRow w.heap.size 30 3 rv s.out.length (opVals s.out) → w'.ownsRow w.heap.size 3 1 dv (pick s.dead 12).length (intVals (pick s.dead 12)) → w'.ownsRow w.heap.size 3 1 lv (pick (isLate s) 12).length (intVals (pick (isLate s) 12)) → Below w.heap.size w w' → PlayPost l w (.returned (.tuple #[.agg #[rv, dv, lv], .int .i64 0])) w') := ⟨fun hc w' s rv dv lv h1 h2 h3 h4 h5 => ⟨h5, Or.inr ⟨by rw [HC.out]; exact hc, s, rv, dv, lv, h1, rfl, h2, h3, h4⟩⟩⟩
  obtain ⟨PP, HPP⟩ : ∃ P, Box (PlayPost l w = P) := ⟨_, ⟨rfl⟩⟩
  rw [HC.out, HN.out] at HR
  rw [HN.out]
  rw [HPP.out] at HBad HGood ⊢
  clear h hf
  have hal := Below.alloc (Below.refl w.heap.size w) (Nat.le_refl _)
  go_enter Try.func5, Try.ntmps5
  go_wp2_with fail
  refine (HR.out _ (hal _)).mono ?_
  rintro e w1 ⟨rfl, hb1⟩
  have HRb := box ((Blk.new' (w := w) (n := w.heap.size) rfl [.slice none 0 0, .slice none 0 0, .slice none 0 0] 25).after hb1)
  have p0 := HRb.out.cell (i := 0) rfl
  have p1 := HRb.out.cell (i := 1) rfl
  have p2 := HRb.out.cell (i := 2) rfl
  have f0 := HRb.out.frozen 0
  have f1 := HRb.out.frozen 1
  have f2 := HRb.out.frozen 2
  have hPl := HRb.out.lt
  have HB1 : Box (Below w.heap.size w w1) := ⟨(hal _).trans (hb1.mono (by simp))⟩
  clear hb1 hal
  by_cases hc : c = 0
  case neg =>
    have hd : (c != 0) = true := by simpa using hc
    have HBB := box (HBad.out · · hc)
    clear hc
    go_wp2_with fail
    exact bodyPost_ret (v := .tuple #[.agg #[.slice none 0 0, .slice none 0 0, .slice none 0 0], .int .i64 c]) (by simp [results, Try.results5, go_sem, p0, p1, p2]) rfl (HBB.out _ (((HB1.out.setCell (Nat.le_refl _) _).setCell (Nat.le_refl _) _).setCell (Nat.le_refl _) _))
  have HGood := box (HGood.out hc)
  have HIn : Box (Inv TwoM.start [] (RunM.of l) (RunM.of l) ∧ total (RunM.of l) ≤ 200 ∧ (∀ k, (hk : k < l.length) → RunM.bad l[k] = 0 ∧ ∃ j : Nat, l[k].tx = j)) := ⟨by
    obtain ⟨c1, c2, c3⟩ := (RunM.check_iff l).1 (by rw [HC.out]; exact hc)
    refine ⟨inv_start c2 c3, ?_, fun k hk => ?_⟩
    · unfold total
      rw [of_sum l (fun o ho => ⟨o.tx.toNat, by have := RunM.bad_zero (c2 o ho); omega⟩)]
      exact c1
    · have h1 := c2 _ (List.getElem_mem hk)
      have h2 := RunM.bad_zero h1
      exact ⟨h1, l[k].tx.toNat, by omega⟩⟩
  have hN200 : N ≤ 200 := by
    obtain ⟨c1, _, _⟩ := (RunM.check_iff l).1 (by rw [HC.out]; exact hc)
    rw [← HN.out]; exact c1
  clear HR HC HBad
  subst hc
  obtain ⟨Tb, HTb⟩ : ∃ x, Box (w1.heap.size = x) := ⟨_, ⟨rfl⟩⟩
  go_wp2_with fail
  rw [HTb.out]
  go_loopw [18] (fun t18 wr => ∃ k : Nat, k ≤ N ∧ t18 = .int .i64 (k : Int) ∧ Box (PlAt l w1 Tb k wr)) (fun t18 _ => N - (RowKit.intOf t18).toNat)
  case atStart =>
    refine ⟨0, Nat.zero_le _, rfl, ⟨⟨TwoM.start, fun _ => .slice none 0 0, fun s' h => by rwa [List.drop_zero] at h, ?_, by rw [List.drop_zero]; exact HIn.out.1, ?_⟩⟩⟩
    · rw [← HTb.out]
      exact ⟨_, _, _, _, two_start rfl (fun _ => rfl) (fun _ => rfl) rfl (Blk.new w1 (Tab 26 fun c => if c < 13 then .slice none 0 0 else if c < 25 then .bool false else .slice none 0 0) 45)⟩
    · rw [← HTb.out]; exact (Below.refl _ _).alloc (Nat.le_refl _) _
  case round =>
    obtain ⟨k, hk, rfl, HPl⟩ := hrel
    by_cases hlt : k < N
    · have hkl : k < l.length := by rw [HN.out]; exact hlt
      have HBr : Box (Below w.heap.size w wr) := ⟨by
        obtain ⟨_, _, _, _, _, hb⟩ := HPl.out
        rw [← HTb.out] at hb
        exact HB1.out.trans (hb.mono (Nat.le_of_lt hPl))⟩
      obtain ⟨b, off, rfl, hb, hrow⟩ := ((H.out.below HBr.out (Nat.le_refl _)).resolve_left (by intro h; rw [h] at hkl; simp at hkl))
      obtain ⟨hc0, hc1, hc2⟩ := hrow k hkl
      have HCall : Box (Calls Try.prog 14 #[.pointer (some ⟨Tb, 0, none⟩), .agg #[.int .i64 l[k].tx, .int .i64 l[k].kind, .int .i64 l[k].item]] (wr.alloc (.cells #[.int .i64 l[k].tx, .int .i64 l[k].kind, .int .i64 l[k].item] 30)) fun e w8 => e = .returned (.tuple #[]) ∧ PlAt l w1 Tb (k + 1) w8) := ⟨by
        obtain ⟨s, v, h1, h2, h3, h4⟩ := HPl.out
        obtain ⟨_, hT, hbad⟩ := HIn.out
        obtain ⟨hb0, j, hj⟩ := hbad k hkl
        have ha := (Below.refl wr.heap.size wr).alloc (Nat.le_refl _) (.cells #[.int .i64 l[k].tx, .int .i64 l[k].kind, .int .i64 l[k].item] 30)
        have hTw : Tb ≤ wr.heap.size := by obtain ⟨_, _, _, _, h⟩ := h2; exact h.bw
        have h3' := h3
        rw [List.drop_eq_getElem_cons hkl, of_cons hj] at h3'
        exact (take_is Tb Tb _ s v l[k] j [] _ _ (h2.after ha) hj hb0 h3' hT).mono fun e w8 hp => PlAt.next hkl h1 h3 h4 ha hTw hj hp⟩
      generalize l[k] = o at *
      obtain ⟨tx, kind, item⟩ := o
      simp only at hc0 hc1 hc2 HCall
      clear hrow hb HPl hkl
      go_wp2_with fail
      refine HCall.out.mono ?_
      rintro e w8 ⟨rfl, hp8⟩
      have HP8 := box hp8
      clear HCall hp8 hc0 hc1 hc2
      go_wp2_with fail
      go_roundw
      case rel => exact ⟨k + 1, hlt, by go_num, HP8⟩
      case measure => simp [RowKit.intOf]; omega
    · obtain rfl : k = N := by omega
      obtain ⟨WR, HWR⟩ : ∃ x, Box (wr = x) := ⟨_, ⟨rfl⟩⟩
      rw [HWR.out] at HPl ⊢
      obtain ⟨s, v, h1, ⟨la, lc, lo, W0, h2⟩, h3, h4⟩ := HPl.out
      have HTk : Box (Takes TwoM.start l s) := ⟨h1 s (by rw [List.drop_of_length_le (by rw [HN.out]; omega)]; exact .nil)⟩
      have HW := box h2
      have HB2 : Box (Below w.heap.size w WR) := ⟨by
        rw [← HTb.out] at h4
        exact HB1.out.trans (h4.mono (Nat.le_of_lt hPl))⟩
      have hTB : w.heap.size < Tb := by rw [← HTb.out]; exact hPl
      have HOw : Box (WR.ownsRow Tb 30 3 (v 12) s.out.length (opVals s.out)) := ⟨h2.out⟩
      have HRz : Box (Blk WR w.heap.size 25 [.slice none 0 0, .slice none 0 0, .slice none 0 0]) := ⟨HRb.out.below h4 hTB⟩
      have c25 := h2.cOut
      have hTl := h2.tlt
      obtain ⟨oa, oc, hv12, _, _, _, _⟩ := OpsAt.own h2.out
      obtain ⟨OL, HOL⟩ : ∃ x, Box (s.out.length = x) := ⟨_, ⟨rfl⟩⟩
      rw [hv12] at c25 HOw
      rw [HOL.out] at c25 HOw
      clear hv12
      obtain ⟨P, HP⟩ : ∃ x, Box (WR.heap.size = x) := ⟨_, ⟨rfl⟩⟩
      have hTP : Tb < P := by rw [← HP.out]; exact hTl
      have HGG := box (HGood.out True.intro)
      have HL1 := box (fun i (hi : i < 12) => OpsAt.own (h2.late hi))
      have HCD := box (fun i (hi : i < 12) (wx : World) (hb : Below WR.heap.size WR wx) => (h2.after hb).cDead hi)
      have HCL := box (fun i (hi : i < 12) (wx : World) (hb : Below WR.heap.size WR wx) => (h2.after hb).cLate hi)
      clear h1 h2 h3 h4 HPl HGood HIn HTb
      go_wp2_with fail
      rw [HP.out]
      go_loopw [28] (fun t28 w2 => ∃ (k : Nat) (dv lv : Value), k ≤ 12 ∧ t28 = .int .i64 (k : Int) ∧ Box (PlW WR P (.slice oa OL oc) (pick s.dead k) (pick (isLate s) k) dv lv w2)) (fun t28 _ => 12 - (RowKit.intOf t28).toNat)
      case atStart => exact ⟨0, .slice none 0 0, .slice none 0 0, by omega, rfl, ⟨HP.out, by rw [← HP.out]; exact Blk.new _ _ _, World.ownsRow_nil _ _ _ _, World.ownsRow_nil _ _ _ _, fun b hb => (by cases hb), by rw [← HP.out]; exact (Below.refl _ _).alloc (Nat.le_refl _) _⟩⟩
      case round =>
        obtain ⟨k, dv, lv, hk, rfl, HQ⟩ := hrel
        have q0 := HQ.out.blk.cell (i := 0) rfl
        have q1 := HQ.out.blk.cell (i := 1) rfl
        have q2 := HQ.out.blk.cell (i := 2) rfl
        have hPw := HQ.out.blk.lt
        by_cases hlt : k < 12
        · have hbz := HQ.out.below
          rw [← HQ.out.size] at hbz
          have d1 := HCD.out k hlt wr hbz
          have d2 := HCL.out k hlt wr hbz
          obtain ⟨ka, kc, hkv, _, _, _, _⟩ := HL1.out k hlt
          obtain ⟨LL, HLL⟩ : ∃ x, Box ((s.late k).length = x) := ⟨_, ⟨rfl⟩⟩
          rw [hkv, HLL.out] at d2
          obtain ⟨DD, HDD⟩ : ∃ x, Box (s.dead k = x) := ⟨_, ⟨rfl⟩⟩
          rw [HDD.out] at d1
          obtain ⟨da, dc, rfl, _, _, _, _⟩ := IntsAt.own HQ.out.own1
          obtain ⟨ma, mc, rfl, _, _, _, _⟩ := IntsAt.own HQ.out.own2
          obtain ⟨DL, HDL⟩ : ∃ x, Box ((pick s.dead k).length = x) := ⟨_, ⟨rfl⟩⟩
          obtain ⟨ML, HML⟩ : ∃ x, Box ((pick (isLate s) k).length = x) := ⟨_, ⟨rfl⟩⟩
          rw [HDL.out] at q1 HQ
          rw [HML.out] at q2 HQ
          have hDL : DL ≤ k := by have := pick_len s.dead k; have := HDL.out; omega
          have hML : ML ≤ k := by have := pick_len (isLate s) k; have := HML.out; omega
          have HO1 : Box (wr.ownsRow (P + 1) 3 1 (.slice da DL dc) DL (intVals (pick s.dead k))) := ⟨by have h := HQ.out.own1; rwa [HDL.out] at h⟩
          have HDb : Box (∀ wx : World, Below P wr wx → wx.cell? ⟨Tb, 1 + k, none⟩ = some (.slice ka LL kc) ∧ Tb < wx.heap.size) := ⟨fun wx hb => ⟨(hb.cell (p := ⟨Tb, 1 + k, none⟩) hTP).trans d2, Nat.lt_of_lt_of_le (Nat.lt_trans hTP hPw) hb.size⟩⟩
          have hTw : Tb < wr.heap.size := Nat.lt_trans hTP hPw
          have HSD := box (pick_succ s.dead k)
          have HSL := box (pick_succ (isLate s) k)
          clear hbz hkv
          go_upto_if 34 with (fail)
          go_cut [28] from 28 to 53 (fun s28 wx => s28 = .int .i64 (k : Int) ∧ ∃ da dn dc, Box (Below P wr wx ∧ dn ≤ 12 ∧ (pick s.dead (k + 1)).length = dn ∧ PlW WR P (.slice oa OL oc) (pick s.dead (k + 1)) (pick (isLate s) k) (.slice da dn dc) (.slice ma ML mc) wx))
          case first => as_aux_lemma =>
            cases DD with
            | false =>
              go_wp2_with fail
              go_meet
              have e : pick s.dead (k + 1) = pick s.dead k := by rw [HSD.out, HDD.out]; simp
              exact ⟨rfl, da, DL, dc, ⟨Below.refl _ _, by omega, by rw [e]; exact HDL.out, by rw [e]; exact HQ.out⟩⟩
            | true =>
              have hown1 := HO1.out.alloc (.cells #[.int .i64 (k : Int)] 3)
              go_wp2_with (at_builtin; go_must (refine wpList_append_lies _ rfl _ _ 23 rfl (P + 1) 3 i0 _ 1 8 Try.underlying23 hi0 hz0 hz1 hz2 rfl (by decide) _ _ _ rfl hown1 ⟨wr.heap.size, 0, none⟩ 1 1 [.int .i64 (k : Int)] rfl rfl (cells_new wr [.int .i64 (k : Int)] 3) (by simp [Value.oneCell']) (by decide) (by unfold maxLen; omega) (by omega) (by simp; omega) (wr.heap.size + 1) (by simp) ?_))
              intro gg gcap w7 hown7 hgrow7 hat7 hlt7
              have hb4 : Below wr.heap.size wr (wr.alloc (.cells #[.int .i64 (k : Int)] 3)) := (Below.refl _ _).alloc (Nat.le_refl _) _
              have hG7 : wr.grownBy w7 (Value.slice da DL dc).ownBlock := ⟨hgrow7.os.trans hb4.os, hgrow7.tape.trans hb4.tape, hgrow7.output.trans hb4.output, Nat.le_trans hb4.size hgrow7.size, fun b h1 hne => (hgrow7.block b (Nat.lt_of_lt_of_le h1 hb4.size) hne).trans (hb4.block b h1)⟩
              have HBQ : Box (∀ u, Below P wr (w7.setCell ⟨P, 1, none⟩ u)) := ⟨fun u => (((Below.refl P wr).alloc (Nat.le_of_lt hPw) _).grown hgrow7 (by simp; omega) (fun b hb => by have := (HO1.out.lt b hb).1; omega)).setCell (Nat.le_refl _) _⟩
              have HS5 := box (HQ.out.push1 (g := gg) (gc := gcap) (k := (k : Int)) (by rw [HDL.out]; exact hown7) hG7 (hat7.imp id (fun e => by omega)))
              rw [HDL.out] at HS5
              have z0 := HS5.out.1.cell (i := 0) rfl
              have z1 := HS5.out.1.cell (i := 1) rfl
              have z2 := HS5.out.1.cell (i := 2) rfl
              have y1 := HS5.out.1.frozen 1
              have hP7 := HS5.out.1.lt
              clear hown7 hgrow7 hat7 hb4 hG7 hown1
              go_wp2_with fail
              go_meet
              have e : pick s.dead (k + 1) = pick s.dead k ++ [(k : Int)] := by rw [HSD.out, HDD.out]; simp
              exact ⟨rfl, some ⟨gg, 0, none⟩, DL + 1, gcap, ⟨HBQ.out _, by omega, by rw [e, List.length_append, HDL.out]; rfl, by rw [e]; exact HS5.out.2⟩⟩
          case rest =>
            obtain ⟨rfl, da', dn, dc', HX⟩ := hcut
            have z0 := HX.out.2.2.2.blk.cell (i := 0) rfl
            have z1 := HX.out.2.2.2.blk.cell (i := 1) rfl
            have z2 := HX.out.2.2.2.blk.cell (i := 2) rfl
            have hPc := HX.out.2.2.2.blk.lt
            obtain ⟨d3, hT3⟩ := HDb.out wc HX.out.1
            have HO2 : Box (wc.ownsRow (P + 1) 3 1 (.slice ma ML mc) ML (intVals (pick (isLate s) k))) := ⟨by have h := HX.out.2.2.2.own2; rwa [HML.out] at h⟩
            have hdn := HX.out.2.1
            clear d1 d2 q0 q1 q2
            by_cases hL : 0 < LL
            · have hLi : (0 : Int) < (LL : Int) := by omega
              have dL : decide ((0 : Int) < (LL : Int)) = true := decide_eq_true hLi
              have HLt : Box (isLate s k = true) := ⟨by unfold isLate; rw [HLL.out]; exact decide_eq_true hL⟩
              have hown1 := HO2.out.alloc (.cells #[.int .i64 (k : Int)] 3)
              go_wp2_with (at_builtin; go_must (refine wpList_append_lies _ rfl _ _ 23 rfl (P + 1) 3 i0 _ 1 8 Try.underlying23 hi0 hz0 hz1 hz2 rfl (by decide) _ _ _ rfl hown1 ⟨wc.heap.size, 0, none⟩ 1 1 [.int .i64 (k : Int)] rfl rfl (cells_new wc [.int .i64 (k : Int)] 3) (by simp [Value.oneCell']) (by decide) (by unfold maxLen; omega) (by omega) (by simp; omega) (wc.heap.size + 1) (by simp) ?_))
              intro gg gcap w7 hown7 hgrow7 hat7 hlt7
              have hb4 : Below wc.heap.size wc (wc.alloc (.cells #[.int .i64 (k : Int)] 3)) := (Below.refl _ _).alloc (Nat.le_refl _) _
              have hG7 : wc.grownBy w7 (Value.slice ma ML mc).ownBlock := ⟨hgrow7.os.trans hb4.os, hgrow7.tape.trans hb4.tape, hgrow7.output.trans hb4.output, Nat.le_trans hb4.size hgrow7.size, fun b h1 hne => (hgrow7.block b (Nat.lt_of_lt_of_le h1 hb4.size) hne).trans (hb4.block b h1)⟩
              have HS5 := box (HX.out.2.2.2.push2 (g := gg) (gc := gcap) (k := (k : Int)) (by rw [HML.out]; exact hown7) hG7 (hat7.imp id (fun e => by omega)))
              rw [HML.out] at HS5
              have z0 := HS5.out.1.cell (i := 0) rfl
              have z1 := HS5.out.1.cell (i := 1) rfl
              have z2 := HS5.out.1.cell (i := 2) rfl
              have y1 := HS5.out.1.frozen 2
              have hP7 := HS5.out.1.lt
              clear hown7 hgrow7 hat7 hb4 hG7 hown1
              go_wp2_with fail
              have e : pick (isLate s) (k + 1) = pick (isLate s) k ++ [(k : Int)] := by rw [HSL.out, HLt.out]; simp
              have HNx : Box (PlW WR P (.slice oa OL oc) (pick s.dead (k + 1)) (pick (isLate s) (k + 1)) (.slice da' dn dc') (.slice (some ⟨gg, 0, none⟩) (ML + 1) gcap) (w7.setCell ⟨P, 2, none⟩ (.slice (some ⟨gg, 0, none⟩) (ML + 1) gcap))) := ⟨by rw [e]; exact HS5.out.2⟩
              clear e
              go_roundw
              case rel => exact ⟨k + 1, _, _, hlt, by go_num, HNx⟩
              case measure => simp [RowKit.intOf]; omega
            · have hLi : ¬ (0 : Int) < (LL : Int) := by omega
              have dL : decide ((0 : Int) < (LL : Int)) = false := decide_eq_false hLi
              have HLt : Box (isLate s k = false) := ⟨by unfold isLate; rw [HLL.out]; exact decide_eq_false hL⟩
              go_wp2_with fail
              have e : pick (isLate s) (k + 1) = pick (isLate s) k := by rw [HSL.out, HLt.out]; simp
              have HNx : Box (PlW WR P (.slice oa OL oc) (pick s.dead (k + 1)) (pick (isLate s) (k + 1)) (.slice da' dn dc') (.slice ma ML mc) wc) := ⟨by rw [e]; exact HX.out.2.2.2⟩
              clear e
              go_roundw
              case rel => exact ⟨k + 1, _, _, hlt, by go_num, HNx⟩
              case measure => simp [RowKit.intOf]; omega
        · obtain rfl : k = 12 := by omega
          have hbz := HQ.out.below
          rw [← HQ.out.size] at hbz
          have HRy := box (HRz.out.after hbz)
          have e0 := HRy.out.cell (i := 0) rfl
          have e1 := HRy.out.cell (i := 1) rfl
          have e2 := HRy.out.cell (i := 2) rfl
          have g0 := HRy.out.frozen 0
          have g1 := HRy.out.frozen 1
          have g2 := HRy.out.frozen 2
          have hlz := HRy.out.lt
          have HFin : Box (∀ u0 u1 u2, PP (.returned (.tuple #[.agg #[.slice oa OL oc, dv, lv], .int .i64 0])) (((wr.setCell ⟨w.heap.size, 0, none⟩ u0).setCell ⟨w.heap.size, 1, none⟩ u1).setCell ⟨w.heap.size, 2, none⟩ u2)) := ⟨fun u0 u1 u2 => by
            have o1 : wr.ownsRow Tb 30 3 (.slice oa OL oc) s.out.length (opVals s.out) := by rw [HOL.out]; exact ownsRow_below HOw.out hbz
            have o2 := HQ.out.own1
            have o3 := HQ.out.own2
            have n1 : (Value.slice oa OL oc).ownBlock ≠ some w.heap.size := fun e => by have := (o1.lt _ e).1; omega
            have n2 : dv.ownBlock ≠ some w.heap.size := fun e => by have := (o2.lt _ e).1; omega
            have n3 : lv.ownBlock ≠ some w.heap.size := fun e => by have := (o3.lt _ e).1; omega
            refine HGG.out _ s _ _ _ HTk.out ?_ ?_ ?_ ?_
            · exact ownsRow_setCell_other (ownsRow_setCell_other (ownsRow_setCell_other (ownsRow_mono o1 (Nat.le_of_lt hTB)) n1 _) n1 _) n1 _
            · exact ownsRow_setCell_other (ownsRow_setCell_other (ownsRow_setCell_other (ownsRow_mono o2 (by omega)) n2 _) n2 _) n2 _
            · exact ownsRow_setCell_other (ownsRow_setCell_other (ownsRow_setCell_other (ownsRow_mono o3 (by omega)) n3 _) n3 _) n3 _
            · exact (((HB2.out.trans (hbz.mono HB2.out.size)).setCell (Nat.le_refl _) _).setCell (Nat.le_refl _) _).setCell (Nat.le_refl _) _⟩
          obtain ⟨da, dc, rfl, _, _, _, _⟩ := IntsAt.own HQ.out.own1
          obtain ⟨ma, mc, rfl, _, _, _, _⟩ := IntsAt.own HQ.out.own2
          obtain ⟨DL, HDL⟩ : ∃ x, Box ((pick s.dead 12).length = x) := ⟨_, ⟨rfl⟩⟩
          obtain ⟨ML, HML⟩ : ∃ x, Box ((pick (isLate s) 12).length = x) := ⟨_, ⟨rfl⟩⟩
          rw [HDL.out] at q1 HFin
          rw [HML.out] at q2 HFin
          clear hbz p0 p1 p2 f0 f1 f2
          go_wp2_with fail
          exact bodyPost_ret (v := .tuple #[.agg #[.slice oa OL oc, .slice da DL dc, .slice ma ML mc], .int .i64 0]) (by simp [results, Try.results5, go_sem, e0, e1, e2]) rfl (HFin.out _ _ _)
end
section
open Go.RowKit Go.Lib

namespace TwoM
/-- What Play leaves, opened. -/
def PlayO (l : List OpM) (w : World) (e : Ending) (w' : World) : Prop :=
  Below w.heap.size w w' ∧ ((RunM.check l ≠ 0 ∧ e = .returned (.tuple #[.agg #[.slice none 0 0, .slice none 0 0, .slice none 0 0], .int .i64 (RunM.check l)])) ∨
    (RunM.check l = 0 ∧ ∃ (s : S) (ao bo co : Option Addr) (c1 c2 c3 : Nat), Takes TwoM.start l s ∧ Inv s [] (fun _ => []) (RunM.of l) ∧ Acyc s.locks ∧
      e = .returned (.tuple #[.agg #[.slice ao s.out.length c1, .slice bo (pick s.dead 12).length c2, .slice co (pick (isLate s) 12).length c3], .int .i64 0]) ∧
      OpsAt w' ao s.out ∧ (ao = none → c1 = 0) ∧ IntsAt w' bo (pick s.dead 12) ∧ IntsAt w' co (pick (isLate s) 12)))
theorem acyc_start : Acyc TwoM.start.locks := acyc_of (VicM.Vic.done fun k hp => by
  obtain ⟨c, hc⟩ := VicM.path_out hp
  rw [GrM.E_iff] at hc
  have : LkM.waits [] = [] := by decide
  change _ ∈ LkM.waits [] at hc
  rw [this] at hc
  cases hc)
theorem takes_known {l : List OpM} (hc : RunM.check l = 0) {s : S} (h : Takes TwoM.start l s) : Inv s [] (fun _ => []) (RunM.of l) ∧ Acyc s.locks := by
  obtain ⟨_, c2, c3⟩ := (RunM.check_iff l).1 hc
  exact run_inv h c2 (inv_start c2 c3) acyc_start
end TwoM
open TwoM in
theorem play_o (l : List OpM) (ao : Option Addr) (cap : Nat) (w : World) (h : OpsAt w ao l) (hf : RunM.Fits l) :
    Calls Try.prog 5 #[.slice ao l.length cap] w (PlayO l w) := by
  refine (play_any l ao cap w h hf).mono ?_
  rintro e w' ⟨hb, ⟨hc, rfl⟩ | ⟨hc, s, v1, v2, v3, ht, rfl, h1, h2, h3⟩⟩
  · exact ⟨hb, Or.inl ⟨hc, rfl⟩⟩
  · obtain ⟨a1, c1, rfl, _, o1, n1, _⟩ := OpsAt.own h1
    obtain ⟨a2, c2, rfl, _, o2, _⟩ := IntsAt.own h2
    obtain ⟨a3, c3, rfl, _, o3, _⟩ := IntsAt.own h3
    obtain ⟨i1, i2⟩ := takes_known hc ht
    exact ⟨hb, Or.inr ⟨hc, s, a1, a2, a3, c1, c2, c3, ht, i1, i2, rfl, o1, n1, o2, o3⟩⟩
end
end Go.Proofs.Ytnnkejolfhhmlaa
