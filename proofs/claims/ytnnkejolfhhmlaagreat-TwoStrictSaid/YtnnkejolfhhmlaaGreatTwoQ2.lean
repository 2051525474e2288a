/- two.Play: drop walked. -/
import Derived.Test.YtnnkejolfhhmlaaGreatTwoL
import Derived.Test.YtnnkejolfhhmlaaGreatLkGl
import Derived.Test.YtnnkejolfhhmlaaGreatOpsRow
import Derived.Test.YtnnkejolfhhmlaaGreatLkDropS
import Derived.Test.YtnnkejolfhhmlaaGreatPutR
import Derived.Deep.AppendLies
import Derived.Test.YtnnkejolfhhmlaaGreatLkDropW
import Derived.Deep.RegionHeld3
import Derived.Deep.LoopGhost
namespace Go.Proofs.YtnnkejolfhhmlaaGreat
section
open Go.RowKit Go.Lib

namespace TwoM
/-- Rows 0 .. 11 are late operations, row 12 is what was done. -/
def rows (s : S) (i : Nat) : List OpM := if i = 12 then s.out else s.late i
def cellF (s : S) (v : Nat → Value) (la : Option Addr) (lc c : Nat) : Value := if c = 0 then .slice la s.locks.length lc else if c < 13 then v (c - 1) else if c < 25 then .bool (s.dead (c - 13)) else v 12
/-- The table stands in block Tb, its rows in blocks from B on; the locks in blocks from lo on that world W0 has. -/
structure TwoW (W : World) (B Tb : Nat) (s : S) (v : Nat → Value) (la : Option Addr) (lc lo : Nat) (W0 : World) : Prop where
  blk : Blk W Tb 68 (Tab 26 (cellF s v la lc))
  fam : Fam W B 13 30 3 v (fun i => (rows s i).length) (fun i => opVals (rows s i))
  lis : LisIn W0 lo la s.locks
  keep : ∀ b, lo ≤ b → b < W0.heap.size → W.heap[b]? = W0.heap[b]?
  size : W0.heap.size ≤ W.heap.size
  apart : ∀ i, i < 13 → ∀ b, (v i).ownBlock = some b → b < lo ∨ W0.heap.size ≤ b
  tout : Tb < lo ∨ W0.heap.size ≤ Tb
  base : B ≤ Tb
/-- Only the table and its rows are touched. -/
structure Only (B Tb : Nat) (v v' : Nat → Value) (W W' : World) : Prop where
  rest : ∀ b, b < W.heap.size → b ≠ Tb → (∀ i, i < 13 → (v i).ownBlock ≠ some b) → W'.heap[b]? = W.heap[b]?
  rows : ∀ i, i < 13 → ∀ b, (v' i).ownBlock = some b → W.heap.size ≤ b ∨ ∃ j, j < 13 ∧ (v j).ownBlock = some b
  below : Below B W W'
section
variable {W W' W'' W0 : World} {B Tb lc lo : Nat} {s s' : S} {v v' v'' : Nat → Value} {la : Option Addr}
theorem Only.refl (B Tb : Nat) (v : Nat → Value) (W : World) : Only B Tb v v W W := ⟨fun _ _ _ _ => rfl, fun i hi _ hb => Or.inr ⟨i, hi, hb⟩, Below.refl _ _⟩
theorem Only.trans (h : Only B Tb v v' W W') (k : Only B Tb v' v'' W' W'') : Only B Tb v v'' W W'' := by
  refine ⟨fun b h1 h2 h3 => ?_, fun i hi b hb => ?_, h.below.trans k.below⟩
  · refine (k.rest b (Nat.lt_of_lt_of_le h1 h.below.size) h2 fun i hi e => ?_).trans (h.rest b h1 h2 h3)
    rcases h.rows i hi b e with h4 | ⟨j, h4, h5⟩
    · omega
    · exact h3 j h4 h5
  · rcases k.rows i hi b hb with h4 | ⟨j, h4, h5⟩
    · exact Or.inl (Nat.le_trans h.below.size h4)
    · exact h.rows j h4 b h5
theorem Only.after (h : Only B Tb v v' W W') (hb : Below W'.heap.size W' W'') (hB : B ≤ W'.heap.size) : Only B Tb v v' W W'' :=
  h.trans ⟨fun b h1 _ _ => hb.block b h1, fun i hi _ hb => Or.inr ⟨i, hi, hb⟩, hb.mono hB⟩
/-- A block that the table does not hold stays. -/
theorem Only.keeps (h : Only B Tb v v' W W') {b : Nat} (hb : b < W.heap.size) (h1 : b ≠ Tb) (h2 : ∀ i, i < 13 → (v i).ownBlock ≠ some b) : W'.heap[b]? = W.heap[b]? ∧ ∀ i, i < 13 → (v' i).ownBlock ≠ some b :=
  ⟨h.rest b hb h1 h2, fun i hi e => by
    rcases h.rows i hi b e with h4 | ⟨j, h4, h5⟩
    · omega
    · exact h2 j h4 h5⟩
theorem TwoW.locks (h : TwoW W B Tb s v la lc lo W0) : LisIn W lo la s.locks := h.lis.keep (fun b h1 h2 => h.keep b h1 h2) h.size
theorem TwoW.tlt (h : TwoW W B Tb s v la lc lo W0) : Tb < W.heap.size := h.blk.lt
theorem TwoW.rlt (h : TwoW W B Tb s v la lc lo W0) {i : Nat} (hi : i < 13) {b : Nat} (hb : (v i).ownBlock = some b) : B ≤ b ∧ b < W.heap.size := (h.fam.own i hi).lt b hb
theorem TwoW.rne (h : TwoW W B Tb s v la lc lo W0) {i : Nat} (hi : i < 13) : (v i).ownBlock ≠ some Tb := h.blk.ne_own (h.fam.own i hi) (by decide)
theorem TwoW.bw (h : TwoW W B Tb s v la lc lo W0) : B ≤ W.heap.size := by have := h.base; have := h.tlt; omega
theorem TwoW.after (h : TwoW W B Tb s v la lc lo W0) (hb : Below W.heap.size W W') : TwoW W' B Tb s v la lc lo W0 :=
  ⟨h.blk.after hb, h.fam.after hb, h.lis, fun b h1 h2 => (hb.block b (Nat.lt_of_lt_of_le h2 h.size)).trans (h.keep b h1 h2), Nat.le_trans h.size hb.size, h.apart, h.tout, h.base⟩
theorem TwoW.only (h : TwoW W B Tb s v la lc lo W0) (hb : Below W.heap.size W W') : Only B Tb v v W W' := (Only.refl B Tb v W).after hb h.bw
/-- A cell of the table. -/
theorem TwoW.cell (h : TwoW W B Tb s v la lc lo W0) {c : Nat} (hc : c < 26) : W.cell? ⟨Tb, c, none⟩ = some (cellF s v la lc c) := h.blk.tabCell hc
theorem TwoW.cLocks (h : TwoW W B Tb s v la lc lo W0) : W.cell? ⟨Tb, 0, none⟩ = some (.slice la s.locks.length lc) := h.cell (by omega)
theorem TwoW.cLate (h : TwoW W B Tb s v la lc lo W0) {k : Nat} (hk : k < 12) : W.cell? ⟨Tb, 1 + k, none⟩ = some (v k) := by
  have := h.cell (c := 1 + k) (by omega)
  unfold cellF at this
  rw [if_neg (by omega), if_pos (by omega), show 1 + k - 1 = k by omega] at this
  exact this
theorem TwoW.cDead (h : TwoW W B Tb s v la lc lo W0) {k : Nat} (hk : k < 12) : W.cell? ⟨Tb, 13 + k, none⟩ = some (.bool (s.dead k)) := by
  have := h.cell (c := 13 + k) (by omega)
  unfold cellF at this
  rw [if_neg (by omega), if_neg (by omega), if_pos (by omega), show 13 + k - 13 = k by omega] at this
  exact this
theorem TwoW.cOut (h : TwoW W B Tb s v la lc lo W0) : W.cell? ⟨Tb, 25, none⟩ = some (v 12) := h.cell (by omega)
theorem TwoW.late (h : TwoW W B Tb s v la lc lo W0) {k : Nat} (hk : k < 12) : W.ownsRow B 30 3 (v k) (s.late k).length (opVals (s.late k)) := by
  have := h.fam.own k (by omega)
  unfold rows at this
  rw [if_neg (by omega)] at this
  exact this
theorem TwoW.out (h : TwoW W B Tb s v la lc lo W0) : W.ownsRow B 30 3 (v 12) s.out.length (opVals s.out) := h.fam.own 12 (by omega)
/-- A store into the table's block, said of the other blocks. -/
theorem only_set (hB : B ≤ Tb) (c : Nat) (x : Value) (hr : ∀ i, i < 13 → ∀ b, (v' i).ownBlock = some b → W.heap.size ≤ b ∨ ∃ j, j < 13 ∧ (v j).ownBlock = some b) : Only B Tb v v' W (W.setCell ⟨Tb, c, none⟩ x) :=
  ⟨fun b _ h2 _ => Below.heap_setCell _ _ _ _ (by show b ≠ Tb; exact h2), hr, (Below.refl _ _).setCell (by show B ≤ Tb; exact hB) _⟩
/-- New locks. -/
theorem TwoW.setLocks (h : TwoW W B Tb s v la lc lo W0) {t : List LiM} {la' : Option Addr} {lc' : Nat} (hb : Below W.heap.size W W') (hl : LisIn W' W.heap.size la' t) :
    TwoW (W'.setCell ⟨Tb, 0, none⟩ (.slice la' t.length lc')) B Tb { s with locks := t } v la' lc' W.heap.size W' ∧ Only B Tb v v W (W'.setCell ⟨Tb, 0, none⟩ (.slice la' t.length lc')) := by
  have h' := h.after hb
  refine ⟨⟨?_, ?_, hl, fun b h1 _ => Below.heap_setCell _ _ _ _ (by show b ≠ Tb; have := h.tlt; omega), by simp, fun i hi b hb => Or.inl (h.rlt hi hb).2, Or.inl h.tlt, h.base⟩, (h.only hb).trans (only_set h.base _ _ fun i hi _ hb => Or.inr ⟨i, hi, hb⟩)⟩
  · have := h'.blk.tabSet 0 (.slice la' t.length lc')
    rw [show Tab 26 (upd (cellF s v la lc) 0 (.slice la' t.length lc')) = Tab 26 (cellF { s with locks := t } v la' lc') from Tab_congr fun c _ => by
      unfold upd cellF
      by_cases e : c = 0
      · rw [if_pos e, if_pos e]
      · rw [if_neg e, if_neg e, if_neg e]] at this
    exact this
  · have := h'.fam.setCell h'.blk (by decide) 0 (.slice la' t.length lc')
    exact this
/-- Row i is another one, and the table says so. -/
theorem TwoW.setRow (h : TwoW W B Tb s v la lc lo W0) {i : Nat} (hi : i < 13) {u : Value} {l : List OpM} (ho : W'.ownsRow B 30 3 u l.length (opVals l)) (hg : W.grownBy W' (v i).ownBlock) (hat : ∀ b, u.ownBlock = some b → (v i).ownBlock = some b ∨ W.heap.size ≤ b)
    (hs : ∀ j, j < 13 → rows s' j = if j = i then l else rows s j) (hL : s'.locks = s.locks) (hd : ∀ k, k < 12 → s'.dead k = s.dead k) (c : Nat) (hc : c = if i = 12 then 25 else 1 + i) :
    TwoW (W'.setCell ⟨Tb, c, none⟩ u) B Tb s' (upd v i u) la lc lo W0 ∧ Only B Tb v (upd v i u) W (W'.setCell ⟨Tb, c, none⟩ u) := by
  have hgb : Below B W W' := by
    refine ⟨hg.os, hg.tape, hg.output, hg.size, fun b hb => hg.block b (by have := h.bw; omega) fun e => ?_⟩
    have := (h.rlt hi e.symm).1; omega
  have hbk : Blk W' Tb 68 (Tab 26 (cellF s v la lc)) := h.blk.grown hg (h.rne hi)
  have hune : u.ownBlock ≠ some Tb := fun e => by
    rcases hat Tb e with h1 | h1
    · exact h.rne hi h1
    · have := h.tlt; omega
  have hne : ∀ j, j < 13 → j ≠ i → ∀ b, (v j).ownBlock = some b → u.ownBlock ≠ some b := fun j hj hji b hb e => by
    rcases hat b e with h1 | h1
    · exact h.fam.apart j i hj hi hji b hb h1
    · have := (h.rlt hj hb).2; omega
  refine ⟨⟨?_, ⟨fun j hj => ?_, fun j k hj hk hjk b hb => ?_⟩, by rw [hL]; exact h.lis, fun b h1 h2 => ?_, by simp; have := h.size; have := hg.size; omega, fun j hj b hb => ?_, h.tout, h.base⟩, ⟨fun b h1 h2 h3 => ?_, fun j hj b hb => ?_, ?_⟩⟩
  · have := hbk.tabSet c u
    rw [show Tab 26 (upd (cellF s v la lc) c u) = Tab 26 (cellF s' (upd v i u) la lc) from Tab_congr fun d hd' => by
      subst hc
      unfold upd cellF
      dsimp only
      rw [hL]
      by_cases e0 : d = 0
      · rw [if_pos e0, if_pos e0, if_neg (by split <;> omega)]
      · rw [if_neg e0, if_neg e0]
        by_cases e1 : d < 13
        · rw [if_pos e1, if_pos e1]
          by_cases e2 : d - 1 = i
          · rw [if_pos e2, if_pos (by rw [if_neg (by omega)]; omega)]
          · rw [if_neg e2, if_neg (by split <;> omega)]
        · rw [if_neg e1, if_neg e1]
          by_cases e2 : d < 25
          · rw [if_pos e2, if_pos e2, if_neg (by split <;> omega), hd _ (by omega)]
          · rw [if_neg e2, if_neg e2]
            by_cases e3 : i = 12
            · rw [if_pos (by rw [if_pos e3]; omega), if_pos e3.symm]
            · rw [if_neg (by rw [if_neg e3]; omega), if_neg (fun e => e3 e.symm)]] at this
    exact this
  · rw [hs j hj]
    by_cases e : j = i
    · subst e
      rw [upd_same, if_pos rfl]
      exact ownsRow_setCell_other ho hune _
    · rw [upd_other _ _ e, if_neg e]
      refine ownsRow_setCell_other ((h.fam.own j hj).kept hg ?_) (h.rne hj) _
      cases hb : (v j).ownBlock with
      | none => exact Or.inl rfl
      | some b => exact Or.inr fun e2 => h.fam.apart j i hj hi e b hb e2.symm
  · by_cases ej : j = i
    · subst ej
      rw [upd_same] at hb
      rw [upd_other _ _ (Ne.symm hjk)]
      intro e
      exact hne k hk (Ne.symm hjk) b e hb
    · rw [upd_other _ _ ej] at hb
      by_cases ek : k = i
      · subst ek; rw [upd_same]; exact hne j hj ej b hb
      · rw [upd_other _ _ ek]; exact h.fam.apart j k hj hk hjk b hb
  · refine (Below.heap_setCell _ _ _ _ (by show b ≠ Tb; rcases h.tout with h3 | h3 <;> omega)).trans ((hg.block b (Nat.lt_of_lt_of_le h2 h.size) fun e => ?_).trans (h.keep b h1 h2))
    rcases h.apart i hi b e.symm with h3 | h3 <;> omega
  · by_cases e : j = i
    · subst e
      rw [upd_same] at hb
      rcases hat b hb with h1 | h1
      · exact h.apart j hj b h1
      · exact Or.inr (Nat.le_trans h.size h1)
    · rw [upd_other _ _ e] at hb; exact h.apart j hj b hb
  · exact (Below.heap_setCell _ _ _ _ (by show b ≠ Tb; exact h2)).trans (hg.block b h1 (fun e => h3 i hi e.symm))
  · by_cases e : j = i
    · subst e
      rw [upd_same] at hb
      rcases hat b hb with h1 | h1
      · exact Or.inr ⟨j, hj, h1⟩
      · exact Or.inl h1
    · rw [upd_other _ _ e] at hb; exact Or.inr ⟨j, hj, hb⟩
  · exact hgb.setCell (by show B ≤ Tb; exact h.base) _
/-- Who dies. -/
theorem TwoW.setDead (h : TwoW W B Tb s v la lc lo W0) {k : Nat} (hk : k < 12) :
    TwoW (W.setCell ⟨Tb, 13 + k, none⟩ (.bool true)) B Tb { s with dead := upd s.dead k true } v la lc lo W0 ∧ Only B Tb v v W (W.setCell ⟨Tb, 13 + k, none⟩ (.bool true)) := by
  refine ⟨⟨?_, h.fam.setCell h.blk (by decide) _ _, h.lis, fun b h1 h2 => (Below.heap_setCell _ _ _ _ (by show b ≠ Tb; rcases h.tout with h3 | h3 <;> omega)).trans (h.keep b h1 h2), by simp; exact h.size, h.apart, h.tout, h.base⟩, only_set h.base _ _ fun i hi _ hb => Or.inr ⟨i, hi, hb⟩⟩
  have := h.blk.tabSet (13 + k) (.bool true)
  rw [show Tab 26 (upd (cellF s v la lc) (13 + k) (.bool true)) = Tab 26 (cellF { s with dead := upd s.dead k true } v la lc) from Tab_congr fun c _ => by
    unfold upd cellF
    dsimp only
    by_cases e0 : c = 0
    · rw [if_pos e0, if_pos e0, if_neg (by omega)]
    · rw [if_neg e0, if_neg e0]
      by_cases e1 : c < 13
      · rw [if_pos e1, if_pos e1, if_neg (by omega)]
      · rw [if_neg e1, if_neg e1]
        by_cases e2 : c < 25
        · rw [if_pos e2, if_pos e2]
          by_cases e3 : c = 13 + k
          · rw [if_pos e3, if_pos (by omega)]
          · rw [if_neg e3, if_neg (by omega)]
        · rw [if_neg e2, if_neg e2, if_neg (by omega)]] at this
  exact this
theorem rows_late {k : Nat} {l : List OpM} (hk : k < 12) (hl : s'.late = upd s.late k l) (ho : s'.out = s.out) : ∀ j, j < 13 → rows s' j = if j = k then l else rows s j := fun j _ => by
  unfold rows
  rw [hl, ho]
  by_cases e : j = 12
  · rw [if_pos e, if_neg (by omega), if_pos e]
  · rw [if_neg e]
    by_cases e2 : j = k
    · subst e2; rw [if_pos rfl, upd_same]
    · rw [if_neg e2, upd_other _ _ e2, if_neg e]
theorem rows_out {l : List OpM} (hl : s'.late = s.late) (ho : s'.out = l) : ∀ j, j < 13 → rows s' j = if j = 12 then l else rows s j := fun j _ => by
  unfold rows
  rw [hl, ho]
  by_cases e : j = 12
  · rw [if_pos e, if_pos e]
  · rw [if_neg e, if_neg e, if_neg e]
end
end TwoM
end
section
open Go.RowKit Go.Lib

theorem Tryz.infoOpQ : (Tryz.prog.info? 30).map (fun i => (i.zero, i.size, i.bytes)) = some (some (.agg #[.int .i64 0, .int .i64 0, .int .i64 0]), 3, 24) := by kernel_rfl
namespace TwoM
open LkM
theorem takes_snoc {s s1 s2 : S} {l : List OpM} {o : OpM} (h : Takes s l s1) (k : Take s1 o s2) : Takes s (l ++ [o]) s2 := by
  match l, h with
  | [], .nil => exact .cons k .nil
  | x :: r, .cons h1 h2 => exact .cons h1 (takes_snoc h2 k)
termination_by l.length
theorem wakes_snoc {s s1 s2 s3 : S} {g : List Int} {j : Nat} {o : OpM} {r : List OpM} (h : Wakes s g s1) (hl : s1.late j = o :: r) (k : Takes { s1 with late := upd s1.late j [], out := s1.out ++ [o] } r s2) (e : s2 = s3) : Wakes s (g ++ [(j : Int)]) s3 := by
  subst e
  match g, h with
  | [], .nil => exact .cons hl k .nil
  | x :: g', h' =>
    cases h' with
    | cons h1 h2 h3 => exact .cons h1 h2 (wakes_snoc h3 hl k rfl)
termination_by g.length
def At (W : World) (B Tb : Nat) (s : S) (v : Nat → Value) : Prop := ∃ la lc lo W0, TwoW W B Tb s v la lc lo W0
theorem At.after {W W' : World} {B Tb : Nat} {s : S} {v : Nat → Value} (h : At W B Tb s v) (hb : Below W.heap.size W W') : At W' B Tb s v := by
  obtain ⟨la, lc, lo, W0, h⟩ := h
  exact ⟨la, lc, lo, W0, h.after hb⟩
/-- What a function of the table leaves. -/
def Post (B Tb : Nat) (R : S → Prop) (v : Nat → Value) (w : World) (e : Ending) (w' : World) : Prop := e = .returned (.tuple #[]) ∧ ∃ s' v', R s' ∧ At w' B Tb s' v' ∧ Only B Tb v v' w w'
def TakeSpec (m : Nat) : Prop := ∀ (B Tb : Nat) (w : World) (s : S) (v : Nat → Value) (o : OpM) (j : Nat) (G : List Int) (p h : Nat → List OpM), At w B Tb s v → o.tx = (j : Int) → RunM.bad o = 0 → Inv s G (upd p j (o :: p j)) h → total h ≤ 200 → lates s + 1 ≤ m →
  Calls Tryz.prog 25 #[.pointer (some ⟨Tb, 0, none⟩), .agg #[.int .i64 o.tx, .int .i64 o.kind, .int .i64 o.item]] w (Post B Tb (Take s o) v w)
def WakeSpec (m : Nat) : Prop := ∀ (B Tb : Nat) (w : World) (s : S) (v : Nat → Value) (o : OpM) (r : List OpM) (j : Nat) (G : List Int) (p h : Nat → List OpM), At w B Tb s v → s.late j = o :: r → j < 12 → Inv s ((j : Int) :: G) p h → total h ≤ 200 → lates s ≤ m →
  Calls Tryz.prog 65 #[.pointer (some ⟨Tb, 0, none⟩), .int .i64 (j : Int)] w (Post B Tb (Takes { s with late := upd s.late j [], out := s.out ++ [o] } r) v w)
def DropSpec (m : Nat) : Prop := ∀ (B Tb : Nat) (w : World) (s : S) (v : Nat → Value) (j : Nat) (G : List Int) (p h : Nat → List OpM), At w B Tb s v → LkM.Good s.locks → j < 12 → Inv { s with locks := (drop s.locks j).1 } ((drop s.locks j).2 ++ G) p h → total h ≤ 200 → lates s ≤ m →
  Calls Tryz.prog 45 #[.pointer (some ⟨Tb, 0, none⟩), .int .i64 (j : Int)] w (Post B Tb (Drops s j) v w)
def FreeSpec (m : Nat) : Prop := ∀ (B Tb : Nat) (w : World) (s : S) (v : Nat → Value) (G : List Int) (p h : Nat → List OpM), At w B Tb s v → Inv s G p h → total h ≤ 200 → lates s ≤ m →
  Calls Tryz.prog 48 #[.pointer (some ⟨Tb, 0, none⟩)] w (Post B Tb (Free s) v w)
/-- A row's value. -/
theorem row_form {w : World} {B n : Nat} {v : Value} {l : List OpM} (h : w.ownsRow B 30 3 v n (opVals l)) (hl : l ≠ []) : ∃ g cap, v = .slice (some ⟨g, 0, none⟩) l.length cap ∧ l.length ≤ cap ∧ B ≤ g ∧ g < w.heap.size ∧ ∀ k (h : k < l.length), w.cell? ⟨g, k * 3, none⟩ = some (.int .i64 l[k].tx) ∧ w.cell? ⟨g, k * 3 + 1, none⟩ = some (.int .i64 l[k].kind) ∧ w.cell? ⟨g, k * 3 + 2, none⟩ = some (.int .i64 l[k].item) := by
  obtain ⟨ao, cap, rfl, hn, hat, _, hle⟩ := OpsAt.own h
  rcases h.2 with ⟨h1, h2⟩ | ⟨g, cap', cur, h1, h2, h3, _⟩
  · have : l = [] := List.eq_nil_of_length_eq_zero (by omega)
    exact absurd this hl
  · injection h1 with h1 h4 h5
    subst h1 h5
    rcases hat with h6 | ⟨b, off, h6, h7, h8⟩
    · exact absurd h6 hl
    · injection h6 with h6
      injection h6 with h6 h9
      subst h6 h9
      refine ⟨g, cap, rfl, hle, h2, h7, fun k hk => ?_⟩
      have := h8 k hk
      rwa [Nat.zero_add] at this
end TwoM
open TwoM in
set_option maxRecDepth 20000 in
set_option maxHeartbeats 16000000 in
theorem wake_any (m : Nat) (hT : TakeSpec m) : WakeSpec (m + 1) := by
  intro B Tb w s v o r j G p h hAt hlate hj hI ht hm
  have HT := box hT; have HI := box hI; have HTo := box ht; have HLate := box hlate
  obtain ⟨i0, hi0, hz0, hz1, hz2⟩ := info_parts Tryz.infoOpQ
  obtain ⟨la, lc, lo, W0, hW⟩ := hAt
  have HW := box hW
  obtain ⟨hsm1, hsm2⟩ := small hI ht
  have hsm2 := hsm2 j
  obtain ⟨lb, lcap, hvj, hlc, hBl, hll, hcells⟩ := row_form (hW.late hj) (by rw [hlate]; simp)
  rw [hlate] at hvj hlc hcells hsm2
  obtain ⟨oa, oc, hv12, _, _, _, _⟩ := OpsAt.own hW.out
  obtain ⟨OL, HOL⟩ : ∃ x, Box (s.out.length = x) := ⟨_, ⟨rfl⟩⟩
  obtain ⟨RL, HRL⟩ : ∃ x, Box (r.length = x) := ⟨_, ⟨rfl⟩⟩
  rw [HOL.out] at hv12 hsm1
  rw [List.length_cons, HRL.out] at hvj hlc hsm2
  obtain ⟨q0, q1, q2⟩ := hcells 0 (by simp)
  simp only [List.getElem_cons_zero, Nat.zero_mul, Nat.zero_add] at q0 q1 q2
  have HCr : Box (∀ k (hk : k < r.length), w.cell? ⟨lb, 3 + k * 3, none⟩ = some (.int .i64 r[k].tx) ∧ w.cell? ⟨lb, 3 + k * 3 + 1, none⟩ = some (.int .i64 r[k].kind) ∧ w.cell? ⟨lb, 3 + k * 3 + 2, none⟩ = some (.int .i64 r[k].item)) := ⟨fun k hk => by
    have := hcells (k + 1) (by simp; omega)
    simp only [List.getElem_cons_succ] at this
    rw [show (k + 1) * 3 = 3 + k * 3 by omega] at this
    exact this⟩
  have HOut : Box (w.ownsRow B 30 3 (.slice oa OL oc) OL (opVals s.out)) := ⟨by have := hW.out; rw [hv12, HOL.out] at this; exact this⟩
  have hBw : B ≤ w.heap.size := hW.bw
  have hTl := hW.tlt
  have hTB : B ≤ Tb := hW.base
  have hTn : (Value.slice oa OL oc).ownBlock ≠ some Tb := by rw [← hv12]; exact hW.rne (by omega)
  have hLn : (Value.slice oa OL oc).ownBlock ≠ some lb := by
    rw [← hv12]
    exact hW.fam.apart j 12 (by omega) (by omega) (by omega) lb (by rw [hvj]; rfl)
  have hLT : lb ≠ Tb := fun e => hW.rne (i := j) (by omega) (by rw [hvj, e]; rfl)
  obtain ⟨ox, okd, oi⟩ := o
  dsimp only at q0 q1 q2
  have HCx : Box (∀ wx : World, w.grownBy wx (Value.slice oa OL oc).ownBlock → wx.cell? ⟨Tb, 25, none⟩ = some (.slice oa OL oc) ∧ wx.cell? ⟨Tb, 1 + j, none⟩ = some (.slice (some ⟨lb, 0, none⟩) (RL + 1) lcap) ∧ wx.frozen? ⟨Tb, 25, none⟩ = false ∧ wx.cell? ⟨lb, 0, none⟩ = some (.int .i64 ox) ∧ wx.cell? ⟨lb, 1, none⟩ = some (.int .i64 okd) ∧ wx.cell? ⟨lb, 2, none⟩ = some (.int .i64 oi) ∧ Tb < wx.heap.size ∧ lb < wx.heap.size) := ⟨fun wx hg => by
    have hb := HW.out.blk.grown hg hTn
    have hl := hg.block lb hll (fun e => hLn e.symm)
    have e1 := HW.out.cOut
    have e2 := HW.out.cLate hj
    have hT := hg.block Tb hTl (fun e => hTn e.symm)
    rw [hv12] at e1
    rw [hvj] at e2
    exact ⟨(World.cell?_of_block (a := ⟨Tb, 25, none⟩) hT).trans e1, (World.cell?_of_block (a := ⟨Tb, 1 + j, none⟩) hT).trans e2, hb.frozen _, (World.cell?_of_block (a := ⟨lb, 0, none⟩) hl).trans q0, (World.cell?_of_block (a := ⟨lb, 1, none⟩) hl).trans q1, (World.cell?_of_block (a := ⟨lb, 2, none⟩) hl).trans q2, hb.lt, Nat.lt_of_lt_of_le hll hg.size⟩⟩
  have hji : (j : Int) < 12 := by omega
  have hrl0 : (0 : Int) < (RL : Int) + 1 := by omega
  have HPost : Box (∀ e w', e = Ending.returned (.tuple #[]) → (∃ s' v', Takes { s with late := upd s.late j [], out := s.out ++ [⟨ox, okd, oi⟩] } r s' ∧ At w' B Tb s' v' ∧ Only B Tb v v' w w') → Post B Tb (Takes { s with late := upd s.late j [], out := s.out ++ [⟨ox, okd, oi⟩] } r) v w e w') := ⟨fun e w' h1 h2 => ⟨h1, h2⟩⟩
  obtain ⟨PP, HPP⟩ : ∃ P, Box (Post B Tb (Takes { s with late := upd s.late j [], out := s.out ++ [⟨ox, okd, oi⟩] } r) v w = P) := ⟨_, ⟨rfl⟩⟩
  rw [HPP.out] at HPost ⊢
  clear hW hI ht hlate hT hcells q0 q1 q2
  go_enter Tryz.func65, Tryz.ntmps65
  go_upto_region 0 with (fail)
  go_cut [] (fun wx => ∃ u, Box (TwoW wx B Tb { s with out := s.out ++ [⟨ox, okd, oi⟩] } (upd v 12 u) la lc lo W0 ∧ Only B Tb v (upd v 12 u) w wx))
  case first => as_aux_lemma =>
    obtain ⟨PV, HPV⟩ : ∃ PV : Nat → Option Value, Box (PV = fun i => ([some (.pointer (some ⟨Tb, 0, none⟩)), some (.pointer (some ⟨Tb, 0, none⟩)), some (.pointer (some ⟨Tb, 0, none⟩)), some (.pointer (some ⟨Tb, 25, none⟩)), some (.slice oa OL oc), some (.pointer (some ⟨Tb, 0, none⟩)), some (.int .i64 (j : Int)), some (.pointer (some ⟨Tb, 0, none⟩)), some (.pointer (some ⟨Tb, 1, none⟩)), some (.pointer (some ⟨Tb, 1 + j, none⟩)), some (.slice (some ⟨lb, 0, none⟩) (RL + 1) lcap), some (.pointer (some ⟨lb, 0, none⟩)), some (.agg #[.int .i64 ox, .int .i64 okd, .int .i64 oi]), none, none, some (.pointer (some ⟨Tb, 0, none⟩)), some (.pointer (some ⟨Tb, 25, none⟩)), none] : List (Option Value)).getD i none) := ⟨_, ⟨rfl⟩⟩
    refine wp_region_dagv (by kernel_rfl) (fun Lf vals wx => (∀ i v, PV i = some v → Lf.getD i false = true → vals i = v) ∧ PutR w (.slice oa OL oc) B 30 3 OL (opVals s.out) ⟨Tb, 25, none⟩ [.int .i64 ox, .int .i64 okd, .int .i64 oi] (Lf.getD 13 false) (Lf.getD 14 false) (Lf.getD 17 false) (vals 13) (vals 14) wx) (by kernel_rfl) ?_ ?_ ?_
    · refine ⟨fun i v _ h => absurd h (by simp [Array.getD_eq_getD_getElem?, Array.getElem?_replicate]; try (split <;> simp)), ?_⟩
      simp only [Array.getD_eq_getD_getElem?, Array.getElem?_replicate, List.size_toArray, List.length_cons, List.length_nil, Nat.reduceAdd, Nat.reduceLT, if_true, Option.getD_some]
      exact PutR.start
    · intro i hi o ho Lf vals b wx hat haft hL hR
      obtain ⟨hP, hS⟩ := hR
      have hco := hat.const
      have hkeep : ∀ i v, (PV i = some v ∨ PV i = none) → Lf.getD i true = false → (∀ j u, PV j = some u → (Lf.setIfInBounds i true).getD j false = true → Dag.turn vals i v j = u) := fun i v hv hL j u hu hj => by
        by_cases e : j = i
        · subst e; rw [Dag.turn_same]; rcases hv with hv | hv <;> rw [hv] at hu <;> simp at hu; exact hu
        · rw [Dag.turn_other _ _ e]; rw [getD_set_ne false (Ne.symm e)] at hj; exact hP j u hu hj
      have r0 : b.eval (.tmp 0) = .pointer (some ⟨Tb, 0, none⟩) := hat.old 0 (by
        intro j o' hj
        match j with
        | 0 | 1 | 2 | 3 | 4 | 5 | 6 | 7 | 8 | 9 | 10 | 11 | 12 | 13 | 14 | 15 | 16 | 17 => injection hj with hj; subst hj; simp
        | j + 18 => cases hj)
      have r1 : b.eval (.tmp 1) = .int .i64 (j : Int) := hat.old 1 (by
        intro j o' hj
        match j with
        | 0 | 1 | 2 | 3 | 4 | 5 | 6 | 7 | 8 | 9 | 10 | 11 | 12 | 13 | 14 | 15 | 16 | 17 => injection hj with hj; subst hj; simp
        | j + 18 => cases hj)
      match i, hi with
      | 0, _ =>
        injection ho with ho
        subst ho
        have q17 : Lf.getD 17 false = false := by
          cases h : Lf.getD 17 false with
          | false => rfl
          | true => have := hat.closed 17 _ h rfl ⟨0, .phase⟩ (by simp) rfl; rw [Dag.off hL] at this; cases this
        have hg := hS.g q17
        obtain ⟨c0, c1, z0, k0, k1, k2, hTx, hLx⟩ := HCx.out wx hg
        refine Dag.yields (w' := wx) (.pointer (some ⟨Tb, 0, none⟩)) ?_ ⟨.pointer (some ⟨Tb, 0, none⟩), rfl, hkeep 0 _ (Or.inl (by rw [HPV.out]; rfl)) hL, ?_⟩
        · clear hP hS hat haft hkeep hL hg q17
          generalize b.eval = ρ at *
          go_simp
        · simp only [getD_set_ne false (show 0 ≠ 13 by decide), getD_set_ne false (show 0 ≠ 14 by decide), getD_set_ne false (show 0 ≠ 17 by decide), Dag.turn_other vals (i := 0) (j := 13) _ (by decide), Dag.turn_other vals (i := 0) (j := 14) _ (by decide)]
          exact hS
      | 1, _ =>
        injection ho with ho
        subst ho
        have q17 : Lf.getD 17 false = false := by
          cases h : Lf.getD 17 false with
          | false => rfl
          | true => have := hat.closed 17 _ h rfl ⟨1, .phase⟩ (by simp) rfl; rw [Dag.off hL] at this; cases this
        have hg := hS.g q17
        obtain ⟨c0, c1, z0, k0, k1, k2, hTx, hLx⟩ := HCx.out wx hg
        refine Dag.yields (w' := wx) (.pointer (some ⟨Tb, 0, none⟩)) ?_ ⟨.pointer (some ⟨Tb, 0, none⟩), rfl, hkeep 1 _ (Or.inl (by rw [HPV.out]; rfl)) hL, ?_⟩
        · clear hP hS hat haft hkeep hL hg q17
          generalize b.eval = ρ at *
          go_simp
        · simp only [getD_set_ne false (show 1 ≠ 13 by decide), getD_set_ne false (show 1 ≠ 14 by decide), getD_set_ne false (show 1 ≠ 17 by decide), Dag.turn_other vals (i := 1) (j := 13) _ (by decide), Dag.turn_other vals (i := 1) (j := 14) _ (by decide)]
          exact hS
      | 2, _ =>
        injection ho with ho
        subst ho
        have e8 : b.eval (.tmp 8) = .pointer (some ⟨Tb, 0, none⟩) := (hat.new 1 _ 8 (haft ⟨1, .data⟩ (by simp) rfl) rfl rfl).trans (hP 1 _ (by rw [HPV.out]; rfl) (haft ⟨1, .data⟩ (by simp) rfl))
        have q17 : Lf.getD 17 false = false := by
          cases h : Lf.getD 17 false with
          | false => rfl
          | true => have := hat.closed 17 _ h rfl ⟨2, .phase⟩ (by simp) rfl; rw [Dag.off hL] at this; cases this
        have hg := hS.g q17
        obtain ⟨c0, c1, z0, k0, k1, k2, hTx, hLx⟩ := HCx.out wx hg
        refine Dag.yields (w' := wx) (.pointer (some ⟨Tb, 0, none⟩)) ?_ ⟨.pointer (some ⟨Tb, 0, none⟩), rfl, hkeep 2 _ (Or.inl (by rw [HPV.out]; rfl)) hL, ?_⟩
        · clear hP hS hat haft hkeep hL hg q17
          generalize b.eval = ρ at *
          go_simp
        · simp only [getD_set_ne false (show 2 ≠ 13 by decide), getD_set_ne false (show 2 ≠ 14 by decide), getD_set_ne false (show 2 ≠ 17 by decide), Dag.turn_other vals (i := 2) (j := 13) _ (by decide), Dag.turn_other vals (i := 2) (j := 14) _ (by decide)]
          exact hS
      | 3, _ =>
        injection ho with ho
        subst ho
        have e9 : b.eval (.tmp 9) = .pointer (some ⟨Tb, 0, none⟩) := (hat.new 2 _ 9 (haft ⟨2, .data⟩ (by simp) rfl) rfl rfl).trans (hP 2 _ (by rw [HPV.out]; rfl) (haft ⟨2, .data⟩ (by simp) rfl))
        have q17 : Lf.getD 17 false = false := by
          cases h : Lf.getD 17 false with
          | false => rfl
          | true => have := hat.closed 17 _ h rfl ⟨3, .phase⟩ (by simp) rfl; rw [Dag.off hL] at this; cases this
        have hg := hS.g q17
        obtain ⟨c0, c1, z0, k0, k1, k2, hTx, hLx⟩ := HCx.out wx hg
        refine Dag.yields (w' := wx) (.pointer (some ⟨Tb, 25, none⟩)) ?_ ⟨.pointer (some ⟨Tb, 25, none⟩), rfl, hkeep 3 _ (Or.inl (by rw [HPV.out]; rfl)) hL, ?_⟩
        · clear hP hS hat haft hkeep hL hg q17
          generalize b.eval = ρ at *
          go_simp
        · simp only [getD_set_ne false (show 3 ≠ 13 by decide), getD_set_ne false (show 3 ≠ 14 by decide), getD_set_ne false (show 3 ≠ 17 by decide), Dag.turn_other vals (i := 3) (j := 13) _ (by decide), Dag.turn_other vals (i := 3) (j := 14) _ (by decide)]
          exact hS
      | 4, _ =>
        injection ho with ho
        subst ho
        have e10 : b.eval (.tmp 10) = .pointer (some ⟨Tb, 25, none⟩) := (hat.new 3 _ 10 (haft ⟨3, .data⟩ (by simp) rfl) rfl rfl).trans (hP 3 _ (by rw [HPV.out]; rfl) (haft ⟨3, .data⟩ (by simp) rfl))
        have q17 : Lf.getD 17 false = false := by
          cases h : Lf.getD 17 false with
          | false => rfl
          | true => have := hat.closed 17 _ h rfl ⟨4, .phase⟩ (by simp) rfl; rw [Dag.off hL] at this; cases this
        have hg := hS.g q17
        obtain ⟨c0, c1, z0, k0, k1, k2, hTx, hLx⟩ := HCx.out wx hg
        refine Dag.yields (w' := wx) (.slice oa OL oc) ?_ ⟨.slice oa OL oc, rfl, hkeep 4 _ (Or.inl (by rw [HPV.out]; rfl)) hL, ?_⟩
        · clear hP hS hat haft hkeep hL hg q17
          generalize b.eval = ρ at *
          go_simp
        · simp only [getD_set_ne false (show 4 ≠ 13 by decide), getD_set_ne false (show 4 ≠ 14 by decide), getD_set_ne false (show 4 ≠ 17 by decide), Dag.turn_other vals (i := 4) (j := 13) _ (by decide), Dag.turn_other vals (i := 4) (j := 14) _ (by decide)]
          exact hS
      | 5, _ =>
        injection ho with ho
        subst ho
        have q17 : Lf.getD 17 false = false := by
          cases h : Lf.getD 17 false with
          | false => rfl
          | true => have := hat.closed 17 _ h rfl ⟨5, .phase⟩ (by simp) rfl; rw [Dag.off hL] at this; cases this
        have hg := hS.g q17
        obtain ⟨c0, c1, z0, k0, k1, k2, hTx, hLx⟩ := HCx.out wx hg
        refine Dag.yields (w' := wx) (.pointer (some ⟨Tb, 0, none⟩)) ?_ ⟨.pointer (some ⟨Tb, 0, none⟩), rfl, hkeep 5 _ (Or.inl (by rw [HPV.out]; rfl)) hL, ?_⟩
        · clear hP hS hat haft hkeep hL hg q17
          generalize b.eval = ρ at *
          go_simp
        · simp only [getD_set_ne false (show 5 ≠ 13 by decide), getD_set_ne false (show 5 ≠ 14 by decide), getD_set_ne false (show 5 ≠ 17 by decide), Dag.turn_other vals (i := 5) (j := 13) _ (by decide), Dag.turn_other vals (i := 5) (j := 14) _ (by decide)]
          exact hS
      | 6, _ =>
        injection ho with ho
        subst ho
        have q17 : Lf.getD 17 false = false := by
          cases h : Lf.getD 17 false with
          | false => rfl
          | true => have := hat.closed 17 _ h rfl ⟨6, .phase⟩ (by simp) rfl; rw [Dag.off hL] at this; cases this
        have hg := hS.g q17
        obtain ⟨c0, c1, z0, k0, k1, k2, hTx, hLx⟩ := HCx.out wx hg
        refine Dag.yields (w' := wx) (.int .i64 (j : Int)) ?_ ⟨.int .i64 (j : Int), rfl, hkeep 6 _ (Or.inl (by rw [HPV.out]; rfl)) hL, ?_⟩
        · clear hP hS hat haft hkeep hL hg q17
          generalize b.eval = ρ at *
          go_simp
        · simp only [getD_set_ne false (show 6 ≠ 13 by decide), getD_set_ne false (show 6 ≠ 14 by decide), getD_set_ne false (show 6 ≠ 17 by decide), Dag.turn_other vals (i := 6) (j := 13) _ (by decide), Dag.turn_other vals (i := 6) (j := 14) _ (by decide)]
          exact hS
      | 7, _ =>
        injection ho with ho
        subst ho
        have e12 : b.eval (.tmp 12) = .pointer (some ⟨Tb, 0, none⟩) := (hat.new 5 _ 12 (haft ⟨5, .data⟩ (by simp) rfl) rfl rfl).trans (hP 5 _ (by rw [HPV.out]; rfl) (haft ⟨5, .data⟩ (by simp) rfl))
        have q17 : Lf.getD 17 false = false := by
          cases h : Lf.getD 17 false with
          | false => rfl
          | true => have := hat.closed 17 _ h rfl ⟨7, .phase⟩ (by simp) rfl; rw [Dag.off hL] at this; cases this
        have hg := hS.g q17
        obtain ⟨c0, c1, z0, k0, k1, k2, hTx, hLx⟩ := HCx.out wx hg
        refine Dag.yields (w' := wx) (.pointer (some ⟨Tb, 0, none⟩)) ?_ ⟨.pointer (some ⟨Tb, 0, none⟩), rfl, hkeep 7 _ (Or.inl (by rw [HPV.out]; rfl)) hL, ?_⟩
        · clear hP hS hat haft hkeep hL hg q17
          generalize b.eval = ρ at *
          go_simp
        · simp only [getD_set_ne false (show 7 ≠ 13 by decide), getD_set_ne false (show 7 ≠ 14 by decide), getD_set_ne false (show 7 ≠ 17 by decide), Dag.turn_other vals (i := 7) (j := 13) _ (by decide), Dag.turn_other vals (i := 7) (j := 14) _ (by decide)]
          exact hS
      | 8, _ =>
        injection ho with ho
        subst ho
        have e14 : b.eval (.tmp 14) = .pointer (some ⟨Tb, 0, none⟩) := (hat.new 7 _ 14 (haft ⟨7, .data⟩ (by simp) rfl) rfl rfl).trans (hP 7 _ (by rw [HPV.out]; rfl) (haft ⟨7, .data⟩ (by simp) rfl))
        have q17 : Lf.getD 17 false = false := by
          cases h : Lf.getD 17 false with
          | false => rfl
          | true => have := hat.closed 17 _ h rfl ⟨8, .phase⟩ (by simp) rfl; rw [Dag.off hL] at this; cases this
        have hg := hS.g q17
        obtain ⟨c0, c1, z0, k0, k1, k2, hTx, hLx⟩ := HCx.out wx hg
        refine Dag.yields (w' := wx) (.pointer (some ⟨Tb, 1, none⟩)) ?_ ⟨.pointer (some ⟨Tb, 1, none⟩), rfl, hkeep 8 _ (Or.inl (by rw [HPV.out]; rfl)) hL, ?_⟩
        · clear hP hS hat haft hkeep hL hg q17
          generalize b.eval = ρ at *
          go_simp
        · simp only [getD_set_ne false (show 8 ≠ 13 by decide), getD_set_ne false (show 8 ≠ 14 by decide), getD_set_ne false (show 8 ≠ 17 by decide), Dag.turn_other vals (i := 8) (j := 13) _ (by decide), Dag.turn_other vals (i := 8) (j := 14) _ (by decide)]
          exact hS
      | 9, _ =>
        injection ho with ho
        subst ho
        have e15 : b.eval (.tmp 15) = .pointer (some ⟨Tb, 1, none⟩) := (hat.new 8 _ 15 (haft ⟨8, .data⟩ (by simp) rfl) rfl rfl).trans (hP 8 _ (by rw [HPV.out]; rfl) (haft ⟨8, .data⟩ (by simp) rfl))
        have e13 : b.eval (.tmp 13) = .int .i64 (j : Int) := (hat.new 6 _ 13 (haft ⟨6, .data⟩ (by simp) rfl) rfl rfl).trans (hP 6 _ (by rw [HPV.out]; rfl) (haft ⟨6, .data⟩ (by simp) rfl))
        have q17 : Lf.getD 17 false = false := by
          cases h : Lf.getD 17 false with
          | false => rfl
          | true => have := hat.closed 17 _ h rfl ⟨9, .phase⟩ (by simp) rfl; rw [Dag.off hL] at this; cases this
        have hg := hS.g q17
        obtain ⟨c0, c1, z0, k0, k1, k2, hTx, hLx⟩ := HCx.out wx hg
        refine Dag.yields (w' := wx) (.pointer (some ⟨Tb, 1 + j, none⟩)) ?_ ⟨.pointer (some ⟨Tb, 1 + j, none⟩), rfl, hkeep 9 _ (Or.inl (by rw [HPV.out]; rfl)) hL, ?_⟩
        · clear hP hS hat haft hkeep hL hg q17
          generalize b.eval = ρ at *
          go_simp
        · simp only [getD_set_ne false (show 9 ≠ 13 by decide), getD_set_ne false (show 9 ≠ 14 by decide), getD_set_ne false (show 9 ≠ 17 by decide), Dag.turn_other vals (i := 9) (j := 13) _ (by decide), Dag.turn_other vals (i := 9) (j := 14) _ (by decide)]
          exact hS
      | 10, _ =>
        injection ho with ho
        subst ho
        have e16 : b.eval (.tmp 16) = .pointer (some ⟨Tb, 1 + j, none⟩) := (hat.new 9 _ 16 (haft ⟨9, .data⟩ (by simp) rfl) rfl rfl).trans (hP 9 _ (by rw [HPV.out]; rfl) (haft ⟨9, .data⟩ (by simp) rfl))
        have q17 : Lf.getD 17 false = false := by
          cases h : Lf.getD 17 false with
          | false => rfl
          | true => have := hat.closed 17 _ h rfl ⟨10, .phase⟩ (by simp) rfl; rw [Dag.off hL] at this; cases this
        have hg := hS.g q17
        obtain ⟨c0, c1, z0, k0, k1, k2, hTx, hLx⟩ := HCx.out wx hg
        refine Dag.yields (w' := wx) (.slice (some ⟨lb, 0, none⟩) (RL + 1) lcap) ?_ ⟨.slice (some ⟨lb, 0, none⟩) (RL + 1) lcap, rfl, hkeep 10 _ (Or.inl (by rw [HPV.out]; rfl)) hL, ?_⟩
        · clear hP hS hat haft hkeep hL hg q17
          generalize b.eval = ρ at *
          go_simp
        · simp only [getD_set_ne false (show 10 ≠ 13 by decide), getD_set_ne false (show 10 ≠ 14 by decide), getD_set_ne false (show 10 ≠ 17 by decide), Dag.turn_other vals (i := 10) (j := 13) _ (by decide), Dag.turn_other vals (i := 10) (j := 14) _ (by decide)]
          exact hS
      | 11, _ =>
        injection ho with ho
        subst ho
        have e17 : b.eval (.tmp 17) = .slice (some ⟨lb, 0, none⟩) (RL + 1) lcap := (hat.new 10 _ 17 (haft ⟨10, .data⟩ (by simp) rfl) rfl rfl).trans (hP 10 _ (by rw [HPV.out]; rfl) (haft ⟨10, .data⟩ (by simp) rfl))
        have q17 : Lf.getD 17 false = false := by
          cases h : Lf.getD 17 false with
          | false => rfl
          | true => have := hat.closed 17 _ h rfl ⟨11, .phase⟩ (by simp) rfl; rw [Dag.off hL] at this; cases this
        have hg := hS.g q17
        obtain ⟨c0, c1, z0, k0, k1, k2, hTx, hLx⟩ := HCx.out wx hg
        refine Dag.yields (w' := wx) (.pointer (some ⟨lb, 0, none⟩)) ?_ ⟨.pointer (some ⟨lb, 0, none⟩), rfl, hkeep 11 _ (Or.inl (by rw [HPV.out]; rfl)) hL, ?_⟩
        · clear hP hS hat haft hkeep hL hg q17
          generalize b.eval = ρ at *
          go_simp
        · simp only [getD_set_ne false (show 11 ≠ 13 by decide), getD_set_ne false (show 11 ≠ 14 by decide), getD_set_ne false (show 11 ≠ 17 by decide), Dag.turn_other vals (i := 11) (j := 13) _ (by decide), Dag.turn_other vals (i := 11) (j := 14) _ (by decide)]
          exact hS
      | 12, _ =>
        injection ho with ho
        subst ho
        have e18 : b.eval (.tmp 18) = .pointer (some ⟨lb, 0, none⟩) := (hat.new 11 _ 18 (haft ⟨11, .data⟩ (by simp) rfl) rfl rfl).trans (hP 11 _ (by rw [HPV.out]; rfl) (haft ⟨11, .data⟩ (by simp) rfl))
        have q17 : Lf.getD 17 false = false := by
          cases h : Lf.getD 17 false with
          | false => rfl
          | true => have := hat.closed 17 _ h rfl ⟨12, .phase⟩ (by simp) rfl; rw [Dag.off hL] at this; cases this
        have hg := hS.g q17
        obtain ⟨c0, c1, z0, k0, k1, k2, hTx, hLx⟩ := HCx.out wx hg
        refine Dag.yields (w' := wx) (.agg #[.int .i64 ox, .int .i64 okd, .int .i64 oi]) ?_ ⟨.agg #[.int .i64 ox, .int .i64 okd, .int .i64 oi], rfl, hkeep 12 _ (Or.inl (by rw [HPV.out]; rfl)) hL, ?_⟩
        · clear hP hS hat haft hkeep hL hg q17
          generalize b.eval = ρ at *
          go_simp
        · simp only [getD_set_ne false (show 12 ≠ 13 by decide), getD_set_ne false (show 12 ≠ 14 by decide), getD_set_ne false (show 12 ≠ 17 by decide), Dag.turn_other vals (i := 12) (j := 13) _ (by decide), Dag.turn_other vals (i := 12) (j := 14) _ (by decide)]
          exact hS
      | 13, _ =>
        injection ho with ho
        subst ho
        have e19 : b.eval (.tmp 19) = .agg #[.int .i64 ox, .int .i64 okd, .int .i64 oi] := (hat.new 12 _ 19 (haft ⟨12, .data⟩ (by simp) rfl) rfl rfl).trans (hP 12 _ (by rw [HPV.out]; rfl) (haft ⟨12, .data⟩ (by simp) rfl))
        have q17 : Lf.getD 17 false = false := by
          cases h : Lf.getD 17 false with
          | false => rfl
          | true => have := hat.closed 17 _ h rfl ⟨13, .phase⟩ (by simp) rfl; rw [Dag.off hL] at this; cases this
        have hg := hS.g q17
        obtain ⟨c0, c1, z0, k0, k1, k2, hTx, hLx⟩ := HCx.out wx hg
        have q14 : Lf.getD 14 false = false := by
          cases h : Lf.getD 14 false with
          | false => rfl
          | true => have := hat.closed 14 _ h rfl ⟨13, .data⟩ (by simp) rfl; rw [Dag.off hL] at this; cases this
        rw [q14, q17, Dag.off hL] at hS
        refine Dag.yields (w' := wx.alloc (.cells #[.int .i64 ox, .int .i64 okd, .int .i64 oi] 30)) (.slice (some ⟨wx.heap.size, 0, none⟩) 1 1) ?_ ⟨_, rfl, hkeep 13 _ (Or.inr (by rw [HPV.out]; rfl)) hL, ?_⟩
        · clear hP hS hat haft hkeep hL hg
          generalize b.eval = ρ at *
          go_simp
        rw [Dag.on hL]
        simp only [getD_set_ne false (show 13 ≠ 14 by decide), getD_set_ne false (show 13 ≠ 17 by decide), Dag.turn_same, Dag.turn_other vals (i := 13) (j := 14) _ (by decide)]
        rw [q14, q17]
        exact hS.lay
      | 14, _ =>
        injection ho with ho
        subst ho
        have e11 : b.eval (.tmp 11) = .slice oa OL oc := (hat.new 4 _ 11 (haft ⟨4, .data⟩ (by simp) rfl) rfl rfl).trans (hP 4 _ (by rw [HPV.out]; rfl) (haft ⟨4, .data⟩ (by simp) rfl))
        have e20 : b.eval (.tmp 20) = vals 13 := hat.new 13 _ 20 (haft ⟨13, .data⟩ (by simp) rfl) rfl rfl
        have l13 : Lf.getD 13 false = true := haft ⟨13, .data⟩ (by simp) rfl
        have q17 : Lf.getD 17 false = false := by
          cases h : Lf.getD 17 false with
          | false => rfl
          | true => have := hat.closed 17 _ h rfl ⟨14, .phase⟩ (by simp) rfl; rw [Dag.off hL] at this; cases this
        have hg := hS.g q17
        obtain ⟨c0, c1, z0, k0, k1, k2, hTx, hLx⟩ := HCx.out wx hg
        rw [l13, q17, Dag.off hL] at hS
        have hbl := hS.a rfl rfl
        have hown := ownsRow_below (HOut.out) hbl
        have hvb := hS.b rfl
        have hkb := hS.k rfl rfl rfl
        have hsz := hbl.size
        refine wp_append_lies wx _ _ 22 rfl (B) 30 i0 _ 3 24 Tryz.underlying22 hi0 hz0 hz1 hz2 rfl (by decide) (.slice oa OL oc) (OL) (opVals s.out) e11 hown ⟨_, 0, none⟩ 1 1 [.int .i64 ox, .int .i64 okd, .int .i64 oi] (e20.trans hvb) rfl (World.news_of_block (cs := #[.int .i64 ox, .int .i64 okd, .int .i64 oi]) (t := 30) (fr := (0, 0)) hkb) (by simp [Value.oneCell']) (by omega) (by unfold maxLen; omega) (by omega) (by have := hsz; omega) _ rfl ?_
        intro gQ gcQ w'' hown2 hgrow hatg hltg
        refine ⟨_, rfl, hkeep 14 _ (Or.inr (by rw [HPV.out]; rfl)) hL, ?_⟩
        rw [Dag.on hL]
        simp only [getD_set_ne false (show 14 ≠ 13 by decide), getD_set_ne false (show 14 ≠ 17 by decide), Dag.turn_same, Dag.turn_other vals (i := 14) (j := 13) _ (by decide)]
        rw [l13, q17]
        exact hS.app hown2 hgrow hatg
      | 15, _ =>
        injection ho with ho
        subst ho
        have e7 : b.eval (.tmp 7) = .pointer (some ⟨Tb, 0, none⟩) := (hat.new 0 _ 7 (haft ⟨0, .data⟩ (by simp) rfl) rfl rfl).trans (hP 0 _ (by rw [HPV.out]; rfl) (haft ⟨0, .data⟩ (by simp) rfl))
        have q17 : Lf.getD 17 false = false := by
          cases h : Lf.getD 17 false with
          | false => rfl
          | true =>
            have h16 := hat.closed 17 _ h rfl ⟨16, .data⟩ (by simp) rfl
            have h15 := hat.closed 16 _ h16 rfl ⟨15, .data⟩ (by simp) rfl
            rw [Dag.off hL] at h15; cases h15
        have hg := hS.g q17
        obtain ⟨c0, c1, z0, k0, k1, k2, hTx, hLx⟩ := HCx.out wx hg
        refine Dag.yields (w' := wx) (.pointer (some ⟨Tb, 0, none⟩)) ?_ ⟨.pointer (some ⟨Tb, 0, none⟩), rfl, hkeep 15 _ (Or.inl (by rw [HPV.out]; rfl)) hL, ?_⟩
        · clear hP hS hat haft hkeep hL hg q17
          generalize b.eval = ρ at *
          go_simp
        · simp only [getD_set_ne false (show 15 ≠ 13 by decide), getD_set_ne false (show 15 ≠ 14 by decide), getD_set_ne false (show 15 ≠ 17 by decide), Dag.turn_other vals (i := 15) (j := 13) _ (by decide), Dag.turn_other vals (i := 15) (j := 14) _ (by decide)]
          exact hS
      | 16, _ =>
        injection ho with ho
        subst ho
        have e22 : b.eval (.tmp 22) = .pointer (some ⟨Tb, 0, none⟩) := (hat.new 15 _ 22 (haft ⟨15, .data⟩ (by simp) rfl) rfl rfl).trans (hP 15 _ (by rw [HPV.out]; rfl) (haft ⟨15, .data⟩ (by simp) rfl))
        have q17 : Lf.getD 17 false = false := by
          cases h : Lf.getD 17 false with
          | false => rfl
          | true =>
            have h16 := hat.closed 17 _ h rfl ⟨16, .data⟩ (by simp) rfl
            rw [Dag.off hL] at h16; cases h16
        have hg := hS.g q17
        obtain ⟨c0, c1, z0, k0, k1, k2, hTx, hLx⟩ := HCx.out wx hg
        refine Dag.yields (w' := wx) (.pointer (some ⟨Tb, 25, none⟩)) ?_ ⟨.pointer (some ⟨Tb, 25, none⟩), rfl, hkeep 16 _ (Or.inl (by rw [HPV.out]; rfl)) hL, ?_⟩
        · clear hP hS hat haft hkeep hL hg q17
          generalize b.eval = ρ at *
          go_simp
        · simp only [getD_set_ne false (show 16 ≠ 13 by decide), getD_set_ne false (show 16 ≠ 14 by decide), getD_set_ne false (show 16 ≠ 17 by decide), Dag.turn_other vals (i := 16) (j := 13) _ (by decide), Dag.turn_other vals (i := 16) (j := 14) _ (by decide)]
          exact hS
      | 17, _ =>
        injection ho with ho
        subst ho
        have e23 : b.eval (.tmp 23) = .pointer (some ⟨Tb, 25, none⟩) := (hat.new 16 _ 23 (haft ⟨16, .data⟩ (by simp) rfl) rfl rfl).trans (hP 16 _ (by rw [HPV.out]; rfl) (haft ⟨16, .data⟩ (by simp) rfl))
        have e21 : b.eval (.tmp 21) = vals 14 := hat.new 14 _ 21 (haft ⟨14, .data⟩ (by simp) rfl) rfl rfl
        have l14 : Lf.getD 14 false = true := haft ⟨14, .data⟩ (by simp) rfl
        have lb : Lf.getD 13 false = true := hat.closed 14 _ l14 rfl ⟨13, .data⟩ (by simp) rfl
        rw [lb, l14, Dag.off hL] at hS
        have hg := hS.g rfl
        obtain ⟨c0, c1, z0, k0, k1, k2, hTx, hLx⟩ := HCx.out wx hg
        obtain ⟨gQ, gcQ, hva, _⟩ := hS.c rfl rfl
        have hput := hS.put
        rw [hva] at hput
        have ev := e21.trans hva
        refine Dag.skips (w' := wx.setCell (⟨Tb, 25, none⟩) (.slice (some ⟨gQ, 0, none⟩) (OL + 1) gcQ)) ?_ ⟨_, rfl, hkeep 17 _ (Or.inr (by rw [HPV.out]; rfl)) hL, ?_⟩
        · clear hP hS hat haft hkeep hL hg hput e21 hva
          generalize b.eval = ρ at *
          go_simp
        rw [Dag.on hL]
        simp only [getD_set_ne false (show 17 ≠ 13 by decide), getD_set_ne false (show 17 ≠ 14 by decide), Dag.turn_other vals (i := 17) (j := 13) _ (by decide), Dag.turn_other vals (i := 17) (j := 14) _ (by decide)]
        rw [lb, l14, hva]
        exact hput
      | i + 18, h => exact absurd h (by simp)
    · intro Lf vals wx hall hR
      obtain ⟨hP, hS⟩ := hR
      rw [hall 13 (by simp), hall 14 (by simp), hall 17 (by simp)] at hS
      obtain ⟨w1, hwx, gQ, gcQ, hva, hown, hatg, hgrow⟩ := hS.d rfl
      have hvb := hS.b rfl
      have u0 := hP 0 _ (by rw [HPV.out]; rfl) (hall 0 (by simp))
      have u1 := hP 1 _ (by rw [HPV.out]; rfl) (hall 1 (by simp))
      have u2 := hP 2 _ (by rw [HPV.out]; rfl) (hall 2 (by simp))
      have u3 := hP 3 _ (by rw [HPV.out]; rfl) (hall 3 (by simp))
      have u4 := hP 4 _ (by rw [HPV.out]; rfl) (hall 4 (by simp))
      have u5 := hP 5 _ (by rw [HPV.out]; rfl) (hall 5 (by simp))
      have u6 := hP 6 _ (by rw [HPV.out]; rfl) (hall 6 (by simp))
      have u7 := hP 7 _ (by rw [HPV.out]; rfl) (hall 7 (by simp))
      have u8 := hP 8 _ (by rw [HPV.out]; rfl) (hall 8 (by simp))
      have u9 := hP 9 _ (by rw [HPV.out]; rfl) (hall 9 (by simp))
      have u10 := hP 10 _ (by rw [HPV.out]; rfl) (hall 10 (by simp))
      have u11 := hP 11 _ (by rw [HPV.out]; rfl) (hall 11 (by simp))
      have u12 := hP 12 _ (by rw [HPV.out]; rfl) (hall 12 (by simp))
      have u15 := hP 15 _ (by rw [HPV.out]; rfl) (hall 15 (by simp))
      have u16 := hP 16 _ (by rw [HPV.out]; rfl) (hall 16 (by simp))
      simp only [Dag.all, List.size_toArray, List.length_cons, List.length_nil, Nat.reduceAdd, List.getElem?_toArray, List.getElem?_cons_zero, List.getElem?_cons_succ, Option.bind_some]
      rw [u0, u1, u2, u3, u4, u5, u6, u7, u8, u9, u10, u11, u12, u15, u16, hvb, hva]
      rw [hva] at hown hwx
      have hsr := HW.out.setRow (s' := { s with out := s.out ++ [⟨ox, okd, oi⟩] }) (i := 12) (by omega) (W' := w1) (u := .slice (some ⟨gQ, 0, none⟩) (OL + 1) gcQ) (l := s.out ++ [⟨ox, okd, oi⟩]) (by rw [List.length_append, HOL.out, opVals_append]; exact hown) (by rw [hv12]; exact hgrow) (fun b hb => by
        have e : gQ = b := by simpa [Value.ownBlock] using hb
        subst e
        rw [hv12]; exact hatg) (rows_out rfl rfl) rfl (fun _ _ => rfl) 25 rfl
      have HSR := box hsr
      rw [hwx]
      clear hP hS hall hown hgrow hatg hwx hvb hva hsr
      go_wp2_with fail
      go_meet
      exact ⟨_, HSR⟩
  case rest =>
    obtain ⟨u, HS1⟩ := hcut
    have c1 : wc.cell? ⟨Tb, 1 + j, none⟩ = some (.slice (some ⟨lb, 0, none⟩) (RL + 1) lcap) := by
      have := HS1.out.1.cLate hj
      rwa [upd_other _ _ (by omega), hvj] at this
    have z1 := HS1.out.1.blk.frozen (1 + j)
    have hTl1 := HS1.out.1.tlt
    have HS2 := box (HS1.out.1.setRow (s' := { s with late := upd s.late j [], out := s.out ++ [⟨ox, okd, oi⟩] }) (i := j) (by omega) (W' := wc) (u := .slice none 0 0) (l := []) (World.ownsRow_nil _ _ _ _) ⟨rfl, rfl, rfl, Nat.le_refl _, fun _ _ _ => rfl⟩ (by intro b hb; cases hb) (rows_late hj rfl rfl) rfl (fun _ _ => rfl) (1 + j) (by rw [if_neg (by omega)]))
    obtain ⟨lb', lcap', e', _, _, hll1, hcs⟩ := row_form (HS1.out.1.late hj) (by show s.late j ≠ []; rw [HLate.out]; simp)
    rw [upd_other _ _ (by omega), hvj] at e'
    injection e' with e1 e8 e9
    injection e1 with e1
    injection e1 with e1 e6 e7
    subst e1
    clear e8 e9 e6 e7
    have hlr : ({ s with out := s.out ++ [⟨ox, okd, oi⟩] } : S).late j = ⟨ox, okd, oi⟩ :: r := HLate.out
    rw [hlr] at hcs
    have HSp : Box (∀ i, i < 13 → (upd (upd v 12 u) j (.slice none 0 0) i).ownBlock ≠ some lb) := ⟨fun i hi e => by
      by_cases e2 : i = j
      · subst e2; rw [upd_same] at e; cases e
      · rw [upd_other _ _ e2] at e
        exact HS1.out.1.fam.apart j i (by omega) hi (Ne.symm e2) lb (by rw [upd_other _ _ (by omega), hvj]; rfl) e⟩
    obtain ⟨s2, Hs2⟩ : ∃ x, Box (({ s with late := upd s.late j [], out := s.out ++ [⟨ox, okd, oi⟩] } : S) = x) := ⟨_, ⟨rfl⟩⟩
    have HI2 : Box (Inv s2 G (upd p j (r ++ p j)) h) := ⟨by rw [← Hs2.out]; exact HI.out.wake HLate.out⟩
    have HLs : Box (lates s2 + RL + 1 = lates s) := ⟨by rw [← Hs2.out, ← HRL.out]; exact lates_wake hj HLate.out⟩
    have HOps : Box (∀ x ∈ r, x.tx = (j : Int) ∧ RunM.bad x = 0) := ⟨fun x hx => by
      have hd := (HI.out.open_ (j := j) (by rw [HLate.out]; simp)).2
      exact HI.out.wishes hd (by rw [HLate.out]; simp [hx])⟩
    obtain ⟨W2, HW2⟩ : ∃ x, Box (wc.setCell ⟨Tb, 1 + j, none⟩ (.slice none 0 0) = x) := ⟨_, ⟨rfl⟩⟩
    have HCr2 : Box (lb < W2.heap.size ∧ ∀ k (hk : k < r.length), W2.cell? ⟨lb, 3 + k * 3, none⟩ = some (.int .i64 r[k].tx) ∧ W2.cell? ⟨lb, 3 + k * 3 + 1, none⟩ = some (.int .i64 r[k].kind) ∧ W2.cell? ⟨lb, 3 + k * 3 + 2, none⟩ = some (.int .i64 r[k].item)) := ⟨by
      rw [← HW2.out]
      refine ⟨by rw [World.size_setCell]; exact hll1, fun k hk => ?_⟩
      have := hcs (k + 1) (by simp; omega)
      simp only [List.getElem_cons_succ] at this
      rw [show (k + 1) * 3 = 3 + k * 3 by omega] at this
      have hb : (wc.setCell ⟨Tb, 1 + j, none⟩ (.slice none 0 0)).heap[lb]? = wc.heap[lb]? := Below.heap_setCell _ _ _ _ (by show lb ≠ Tb; exact hLT)
      exact ⟨(World.cell?_of_block (a := ⟨lb, 3 + k * 3, none⟩) hb).trans this.1, (World.cell?_of_block (a := ⟨lb, 3 + k * 3 + 1, none⟩) hb).trans this.2.1, (World.cell?_of_block (a := ⟨lb, 3 + k * 3 + 2, none⟩) hb).trans this.2.2⟩⟩
    have HA2 : Box (At W2 B Tb s2 (upd (upd v 12 u) j (.slice none 0 0)) ∧ Only B Tb v (upd (upd v 12 u) j (.slice none 0 0)) w W2) := ⟨by
      rw [← HW2.out, ← Hs2.out]
      exact ⟨⟨_, _, _, _, HS2.out.1⟩, HS1.out.2.trans HS2.out.2⟩⟩
    rw [Hs2.out] at HPost
    clear hcs hlr hll1 HS1 HS2 HCx HOut HCr hLn hTn hv12 hvj
    have hlc1 : 1 ≤ lcap := by omega
    have hl1i : (1 : Int) ≤ (RL : Int) + 1 := by omega
    by_cases hR0 : RL = 0
    · have hrn : r = [] := List.eq_nil_of_length_eq_zero (by rw [HRL.out]; exact hR0)
      have HFin := box (HPost.out _ W2 rfl ⟨s2, _, by rw [hrn]; exact .nil, HA2.out.1, HA2.out.2⟩)
      subst hR0
      by_cases hc1 : lcap = 1
      · subst hc1
        go_step
        go_wp2_with fail
        refine wp_loop_rounds 1 ?_
        rw [rounds_succ]
        go_wp2_with fail
        rw [HW2.out]
        exact bodyPost_end (results_none rfl _ _ _) rfl HFin.out
      · have hc2 : 2 ≤ lcap := by omega
        go_step
        go_wp2_with fail
        refine wp_loop_rounds 1 ?_
        rw [rounds_succ]
        go_wp2_with fail
        rw [HW2.out]
        exact bodyPost_end (results_none rfl _ _ _) rfl HFin.out
    · have hR1 : 1 ≤ RL := by omega
      have hc2 : 2 ≤ lcap := by omega
      have hc1 : ¬ lcap = 1 := by omega
      go_step
      go_wp2_with fail
      rw [HW2.out]
      clear c1 z1 hTl1 hR0
      go_loopw [38] (fun t38 wr => ∃ i : Nat, i ≤ RL ∧ t38 = .int .i64 (i : Int) ∧ Box (∃ s' v', Takes s2 (r.take i) s' ∧ At wr B Tb s' v' ∧ Only B Tb v v' w wr ∧ (lb < wr.heap.size ∧ wr.heap[lb]? = W2.heap[lb]?) ∧ (∀ i, i < 13 → (v' i).ownBlock ≠ some lb) ∧ Inv s' G (upd p j (r.drop i ++ p j)) h ∧ lates s' ≤ lates s2 + i)) (fun t38 _ => RL - (RowKit.intOf t38).toNat)
      case atStart => exact ⟨0, Nat.zero_le _, rfl, ⟨s2, _, by rw [List.take_zero]; exact .nil, HA2.out.1, HA2.out.2, ⟨HCr2.out.1, rfl⟩, HSp.out, by rw [List.drop_zero]; exact HI2.out, Nat.le_refl _⟩⟩
      case round =>
        obtain ⟨i, hi, rfl, HR⟩ := hrel
        clear HA2
        by_cases hir : i < RL
        · have hil : i < r.length := by rw [HRL.out]; exact hir
          obtain ⟨s', v', hTk, hAt', hOn, ⟨hll2, hlh⟩, hsp, hI', hls⟩ := HR.out
          obtain ⟨d0, d1, d2⟩ := HCr2.out.2 i hil
          have e0 := (World.cell?_of_block (a := ⟨lb, 3 + i * 3, none⟩) hlh).trans d0
          have e1 := (World.cell?_of_block (a := ⟨lb, 3 + i * 3 + 1, none⟩) hlh).trans d1
          have e2 := (World.cell?_of_block (a := ⟨lb, 3 + i * 3 + 2, none⟩) hlh).trans d2
          have hx := HOps.out r[i] (List.getElem_mem hil)
          have hu : upd p j (r.drop i ++ p j) = upd (upd p j (r.drop (i + 1) ++ p j)) j (r[i] :: (upd p j (r.drop (i + 1) ++ p j)) j) := by
            funext q
            by_cases e : q = j
            · subst e; rw [upd_same, upd_same, upd_same, List.drop_eq_getElem_cons hil]; rfl
            · rw [upd_other _ _ e, upd_other _ _ e, upd_other _ _ e]
          rw [hu] at hI'
          have htk : r.take (i + 1) = r.take i ++ [r[i]] := List.take_succ_eq_append_getElem hil
          have hlm : lates s' + 1 ≤ m := by have := HLs.out; omega
          have hal : Below wr.heap.size wr (wr.alloc (.cells #[.int .i64 r[i].tx, .int .i64 r[i].kind, .int .i64 r[i].item] 30)) := (Below.refl _ _).alloc (Nat.le_refl _) _
          have HCall := box (HT.out B Tb _ s' v' r[i] j G _ h (hAt'.after hal) hx.1 hx.2 hI' HTo.out hlm)
          have hbB : B ≤ wr.heap.size := Nat.le_trans hBw hOn.below.size
          have HNx : Box (∀ s3 v3 w6, Take s' r[i] s3 → At w6 B Tb s3 v3 → Only B Tb v' v3 (wr.alloc (.cells #[.int .i64 r[i].tx, .int .i64 r[i].kind, .int .i64 r[i].item] 30)) w6 → ∃ s'' v'', Takes s2 (r.take (i + 1)) s'' ∧ At w6 B Tb s'' v'' ∧ Only B Tb v v'' w w6 ∧ (lb < w6.heap.size ∧ w6.heap[lb]? = W2.heap[lb]?) ∧ (∀ i, i < 13 → (v'' i).ownBlock ≠ some lb) ∧ Inv s'' G (upd p j (r.drop (i + 1) ++ p j)) h ∧ lates s'' ≤ lates s2 + (i + 1)) := ⟨fun s3 v3 w6 k1 k2 k3 => by
            obtain ⟨n1, n2, _⟩ := take_inv k1 hx.1 hI'
            have hls6 : lb < (wr.alloc (.cells #[.int .i64 r[i].tx, .int .i64 r[i].kind, .int .i64 r[i].item] 30)).heap.size := Nat.lt_of_lt_of_le hll2 hal.size
            obtain ⟨n3, n4⟩ := k3.keeps hls6 hLT hsp
            exact ⟨s3, v3, by rw [htk]; exact takes_snoc hTk k1, k2, (hOn.after hal hbB).trans k3, ⟨Nat.lt_of_lt_of_le hls6 k3.below.size, n3.trans ((hal.block lb hll2).trans hlh)⟩, n4, n1, by omega⟩⟩
          generalize r[i] = o at *
          obtain ⟨px, pk, pi⟩ := o
          dsimp only at e0 e1 e2 HCall HNx
          clear d0 d1 d2 hx hu htk hI' hTk hAt' hOn hlh hsp hls hlm hal HR
          go_wp2_with fail
          refine HCall.out.mono ?_
          rintro e w6 ⟨rfl, s3, v3, k1, k2, k3⟩
          have HE := box (HNx.out s3 v3 w6 k1 k2 k3)
          clear k1 k2 k3 HCall HNx e0 e1 e2
          go_wp2_with fail
          go_roundw
          case rel => exact ⟨i + 1, by omega, by go_num, HE⟩
          case measure => simp [RowKit.intOf]; omega
        · obtain rfl : RL = i := by omega
          have HFin : Box (PP (.returned (.tuple #[])) wr) := ⟨by
            obtain ⟨s', v', hTk, hAt', hOn, _⟩ := HR.out
            rw [List.take_of_length_le (by rw [HRL.out]; exact Nat.le_refl _)] at hTk
            exact HPost.out _ _ rfl ⟨s', v', hTk, hAt', hOn⟩⟩
          have dR : decide (RL < RL) = false := by simp
          clear HR
          go_wp2_with fail
          exact bodyPost_end (results_none rfl _ _ _) rfl HFin.out
end
section
open Go.RowKit Go.Lib

open TwoM in
set_option maxRecDepth 20000 in
set_option maxHeartbeats 16000000 in
theorem tdrop_any (m : Nat) (hWk : WakeSpec m) : DropSpec m := by
  intro B Tb w s v j G p h hAt hG hj hI ht hm
  have HWk := box hWk; have HTo := box ht; have HI := box hI
  obtain ⟨la, lc, lo, W0, hW⟩ := hAt
  have HW := box hW
  have HD0 : Box (LkM.dropE s.locks (j : Int) = 0) := ⟨by
    unfold LkM.dropE
    rw [if_neg (by rw [LkM.check_iff.2 hG]; simp), if_neg (by omega)]⟩
  have hG2 := box hG
  have hdr := drop_any s.locks la lc lo (j : Int) w hW.locks hG.small
  have c0 := hW.cLocks
  have hTl := hW.tlt
  have hBw := hW.bw
  obtain ⟨TL, HTL⟩ : ∃ x, Box (s.locks.length = x) := ⟨_, ⟨rfl⟩⟩
  rw [HTL.out] at hdr c0
  have HDr := box hdr
  have HPost : Box (∀ e w', e = Ending.returned (.tuple #[]) → (∃ s' v', Drops s j s' ∧ At w' B Tb s' v' ∧ Only B Tb v v' w w') → Post B Tb (Drops s j) v w e w') := ⟨fun e w' h1 h2 => ⟨h1, h2⟩⟩
  obtain ⟨PP, HPP⟩ : ∃ P, Box (Post B Tb (Drops s j) v w = P) := ⟨_, ⟨rfl⟩⟩
  rw [HPP.out] at HPost ⊢
  clear hWk ht hI hW hdr hG
  go_enter Tryz.func45, Tryz.ntmps45
  go_wp2_with fail
  refine HDr.out.mono ?_
  clear HDr c0
  rintro e w1 ⟨hb1, ⟨h1, _⟩ | ⟨_, ao, cap, ga, gc, rfl, hl, hi, hgb⟩⟩
  · exact absurd HD0.out h1
  have HS := box (HW.out.setLocks (lc' := cap) hb1 hl)
  have c1 := (HW.out.after hb1).cLocks
  have z1 := (HW.out.after hb1).blk.frozen 0
  have hT1 := (HW.out.after hb1).tlt
  have hs1 := hb1.size
  have hrlt : ∀ i, i < 13 → ∀ b, (v i).ownBlock = some b → b < w.heap.size := fun i hi b hb => (HW.out.rlt hi hb).2
  have HRlt := box hrlt
  obtain ⟨t', HT'⟩ : ∃ x, Box ((LkM.drop s.locks (j : Int)).1 = x) := ⟨_, ⟨rfl⟩⟩
  obtain ⟨g, HG⟩ : ∃ x, Box ((LkM.drop s.locks (j : Int)).2 = x) := ⟨_, ⟨rfl⟩⟩
  rw [HT'.out] at HS ⊢
  rw [HG.out] at hi ⊢
  rw [HT'.out, HG.out] at HI
  obtain ⟨s2, Hs2⟩ : ∃ x, Box (({ s with locks := t' } : S) = x) := ⟨_, ⟨rfl⟩⟩
  have HMk : Box (∀ s', Wakes s2 g s' → Drops s j s') := ⟨fun s' h => .mk (by rw [HT'.out, HG.out, Hs2.out]; exact h)⟩
  have HL2 : Box (lates s2 = lates s) := ⟨by rw [← Hs2.out]; rfl⟩
  obtain ⟨TN, HTN⟩ : ∃ x, Box (t'.length = x) := ⟨_, ⟨rfl⟩⟩
  rw [HTN.out] at HS ⊢
  rw [Hs2.out] at HS HI
  obtain ⟨GL, HGL⟩ : ∃ x, Box (g.length = x) := ⟨_, ⟨rfl⟩⟩
  have hGl : GL ≤ 1000 := by rw [← HGL.out, ← HG.out]; exact LkM.drop_len hG2.out _
  rw [HGL.out]
  clear hb1 hl hrlt
  obtain ⟨W2, HW2⟩ : ∃ x, Box (w1.setCell ⟨Tb, 0, none⟩ (.slice ao TN cap) = x) := ⟨_, ⟨rfl⟩⟩
  rw [HW2.out] at HS
  rcases hi with hnil | ⟨gb, goff, rfl, hgl, hgc⟩
  · have hg0 : GL = 0 := by rw [← HGL.out, hnil]; rfl
    have HFin := box (HPost.out _ W2 rfl ⟨s2, v, HMk.out _ (by rw [hnil]; exact .nil), ⟨_, _, _, _, HS.out.1⟩, HS.out.2⟩)
    clear hnil
    subst hg0
    go_wp2_with fail
    refine wp_loop_rounds 1 ?_
    rw [rounds_succ]
    go_wp2_with fail
    rw [HW2.out]
    exact bodyPost_end (results_none rfl _ _ _) rfl HFin.out
  · have hwg := hgb gb goff rfl
    have hgT : gb ≠ Tb := by omega
    have HGc : Box (gb < W2.heap.size ∧ ∀ k (hk : k < g.length), W2.cell? ⟨gb, goff + k, none⟩ = some (.int .i64 g[k])) := ⟨by
      rw [← HW2.out]
      refine ⟨by rw [World.size_setCell]; exact hgl, fun k hk => ?_⟩
      exact (World.cell?_of_block (a := ⟨gb, goff + k, none⟩) (Below.heap_setCell _ _ _ _ (by show gb ≠ Tb; exact hgT))).trans (hgc k hk)⟩
    clear hgc hgb
    go_wp2_with fail
    rw [HW2.out]
    clear c1 z1
    go_loopw [25] (fun t25 wr => ∃ i : Nat, i ≤ GL ∧ t25 = .int .i64 (i : Int) ∧ Box (∃ s' v', Wakes s2 (g.take i) s' ∧ At wr B Tb s' v' ∧ Only B Tb v v' w wr ∧ (gb < wr.heap.size ∧ wr.heap[gb]? = W2.heap[gb]?) ∧ (∀ i, i < 13 → (v' i).ownBlock ≠ some gb) ∧ Inv s' (g.drop i ++ G) p h ∧ lates s' ≤ lates s)) (fun t25 _ => GL - (RowKit.intOf t25).toNat)
    case atStart => exact ⟨0, Nat.zero_le _, rfl, ⟨s2, v, by rw [List.take_zero]; exact .nil, ⟨_, _, _, _, HS.out.1⟩, HS.out.2, ⟨HGc.out.1, rfl⟩, fun i hi e => by have := HRlt.out i hi gb e; omega, by rw [List.drop_zero]; exact HI.out, by rw [HL2.out]; exact Nat.le_refl _⟩⟩
    case round =>
      obtain ⟨i, hi, rfl, HR⟩ := hrel
      clear HS
      by_cases hir : i < GL
      · have hil : i < g.length := by rw [HGL.out]; exact hir
        obtain ⟨s', v', hWks, hAt', hOn, ⟨hgl2, hgh⟩, hsp, hI', hls⟩ := HR.out
        have e0 := (World.cell?_of_block (a := ⟨gb, goff + i, none⟩) hgh).trans (HGc.out.2 i hil)
        have hdr : g.drop i ++ G = g[i] :: (g.drop (i + 1) ++ G) := by rw [List.drop_eq_getElem_cons hil]; rfl
        rw [hdr] at hI'
        have htk : g.take (i + 1) = g.take i ++ [g[i]] := List.take_succ_eq_append_getElem hil
        obtain ⟨_, q, hq, o, r, hlq, _, _⟩ := hI'.given g[i] List.mem_cons_self
        rw [hq] at e0 hI' htk
        have hd := (hI'.open_ (j := q) (by rw [hlq]; simp)).2
        obtain ⟨ho1, ho2⟩ := hI'.wishes hd (o := o) (by rw [hlq]; simp)
        have hq12 : q < 12 := by have := RunM.bad_zero ho2; omega
        have HCall := box (HWk.out B Tb wr s' v' o r q (g.drop (i + 1) ++ G) p h hAt' hlq hq12 hI' HTo.out (by omega))
        have HNx : Box (∀ s3 v3 w6, Takes { s' with late := upd s'.late q [], out := s'.out ++ [o] } r s3 → At w6 B Tb s3 v3 → Only B Tb v' v3 wr w6 → ∃ s'' v'', Wakes s2 (g.take (i + 1)) s'' ∧ At w6 B Tb s'' v'' ∧ Only B Tb v v'' w w6 ∧ (gb < w6.heap.size ∧ w6.heap[gb]? = W2.heap[gb]?) ∧ (∀ i, i < 13 → (v'' i).ownBlock ≠ some gb) ∧ Inv s'' (g.drop (i + 1) ++ G) p h ∧ lates s'' ≤ lates s) := ⟨fun s3 v3 w6 k1 k2 k3 => by
          obtain ⟨n1, n2, _⟩ := wakes_inv (.cons hlq k1 .nil : Wakes s' [(q : Int)] s3) (G := g.drop (i + 1) ++ G) hI'
          obtain ⟨n3, n4⟩ := k3.keeps hgl2 hgT hsp
          exact ⟨s3, v3, by rw [htk]; exact wakes_snoc hWks hlq k1 rfl, k2, hOn.trans k3, ⟨Nat.lt_of_lt_of_le hgl2 k3.below.size, n3.trans hgh⟩, n4, n1, by omega⟩⟩
        clear hdr hI' htk hWks hAt' hOn hgh hsp hls hq hlq hd ho1 ho2 HR
        go_wp2_with fail
        refine HCall.out.mono ?_
        rintro e w6 ⟨rfl, s3, v3, k1, k2, k3⟩
        have HE := box (HNx.out s3 v3 w6 k1 k2 k3)
        clear k1 k2 k3 HCall HNx e0
        go_wp2_with fail
        go_roundw
        case rel => exact ⟨i + 1, by omega, by go_num, HE⟩
        case measure => simp [RowKit.intOf]; omega
      · obtain rfl : GL = i := by omega
        have HFin : Box (PP (.returned (.tuple #[])) wr) := ⟨by
          obtain ⟨s', v', hWks, hAt', hOn, _⟩ := HR.out
          rw [List.take_of_length_le (by rw [HGL.out]; exact Nat.le_refl _)] at hWks
          exact HPost.out _ _ rfl ⟨s', v', HMk.out _ hWks, hAt', hOn⟩⟩
        have dR : decide (GL < GL) = false := by simp
        clear HR
        go_wp2_with fail
        exact bodyPost_end (results_none rfl _ _ _) rfl HFin.out
end
end Go.Proofs.YtnnkejolfhhmlaaGreat
