/- The memory of see.Reads. -/
import Derived.Test.YtnhhjjhhicmfpaaPairM
import Derived.Test.YtnhhjjhhicmfpaaEg
import Derived.Test.YtnhhjjhhicmfpaaOpsRow
namespace Go.Proofs.Ytnhhjjhhicmfpaa
section
open Go.RowKit Go.Lib
namespace SeeM

/-- Does an operation write an item? -/
def hitW (o : OpM) (it : Nat) : Bool := (o.kind == 2) && (o.item == (it : Int))
/-- Where an item was written, among the first k. -/
def wl (l : List OpM) (it k : Nat) : List Int := ((List.range k).filter fun j => hitW l[j]! it).map fun j : Nat => (j : Int)
theorem wl_succ (l : List OpM) (it k : Nat) : wl l it (k + 1) = wl l it k ++ if hitW l[k]! it = true then [(k : Int)] else [] := by
  unfold wl
  rw [List.range_succ, List.filter_append, List.map_append]
  congr 1
  generalize hp : (fun j : Nat => hitW l[j]! it) = p
  have hk : hitW l[k]! it = p k := by rw [← hp]
  rw [hk]
  cases h : p k <;> simp [h]
theorem wl_len (l : List OpM) (it k : Nat) : (wl l it k).length ≤ k := by
  unfold wl
  rw [List.length_map]
  exact Nat.le_trans (List.length_filter_le _ _) (by simp)
theorem wl_upd (l : List OpM) (k it : Nat) (h : (l[k]!).kind = 2) (hi : (l[k]!).item = (it : Int)) : (fun i => wl l i (k + 1)) = upd (fun i => wl l i k) it (wl l it k ++ [(k : Int)]) := by
  funext i
  rw [wl_succ]
  unfold upd hitW
  rw [h, hi]
  by_cases e : i = it
  · subst e; simp
  · rw [if_neg e]
    have : ((it : Int) == (i : Int)) = false := by simp; omega
    rw [this]; simp
theorem wl_same (l : List OpM) (k : Nat) (h : (l[k]!).kind ≠ 2) : (fun i => wl l i (k + 1)) = fun i => wl l i k := by
  funext i
  rw [wl_succ]
  unfold hitW
  have : ((l[k]!).kind == 2) = false := by simpa using h
  rw [this]; simp
/-- Where an item was written last, among the first k; -1: nowhere. -/
def lastTo (l : List OpM) (it k : Nat) : Int := (wl l it k).getLast?.getD (-1)
theorem lastTo_succ (l : List OpM) (it k : Nat) : lastTo l it (k + 1) = if hitW l[k]! it = true then (k : Int) else lastTo l it k := by
  unfold lastTo
  rw [wl_succ]
  generalize hitW l[k]! it = u
  cases u <;> simp
theorem lastTo_zero (l : List OpM) (it : Nat) : lastTo l it 0 = -1 := rfl
theorem lastTo_nil {l : List OpM} {it k : Nat} (h : (wl l it k).length = 0) : lastTo l it k = -1 := by
  unfold lastTo
  rw [List.eq_nil_of_length_eq_zero h]; rfl
theorem lastTo_last {l : List OpM} {it k : Nat} (h : 0 < (wl l it k).length) : lastTo l it k = (wl l it k)[(wl l it k).length - 1]'(by omega) := by
  unfold lastTo
  rw [List.getLast?_eq_getElem?, List.getElem?_eq_getElem (by omega)]; rfl
theorem lastTo_spec (l : List OpM) (it k : Nat) : (lastTo l it k = -1 ∧ ∀ j, j < k → hitW l[j]! it = false) ∨ (∃ j : Nat, j < k ∧ lastTo l it k = (j : Int) ∧ hitW l[j]! it = true ∧ ∀ i, j < i → i < k → hitW l[i]! it = false) := by
  induction k with
  | zero => left; exact ⟨rfl, fun j h => by omega⟩
  | succ k ih =>
    rw [lastTo_succ]
    cases h : hitW l[k]! it with
    | true => right; exact ⟨k, by omega, by simp, h, fun i h1 h2 => by omega⟩
    | false =>
      simp only [Bool.false_eq_true, if_false]
      rcases ih with ⟨h1, h2⟩ | ⟨j, h1, h2, h3, h4⟩
      · left
        refine ⟨h1, fun j hj => ?_⟩
        by_cases e : j = k
        · rw [e]; exact h
        · exact h2 j (by omega)
      · right
        refine ⟨j, by omega, h2, h3, fun i hi hk => ?_⟩
        by_cases e : i = k
        · rw [e]; exact h
        · exact h4 i hi (by omega)
/-- What is read, and whence, among the first k. -/
def readsTo (l : List OpM) (k : Nat) : List EgM := ((List.range k).filter fun i => (l[i]!).kind == 1).map fun i : Nat => (⟨(i : Int), lastTo l (l[i]!).item.toNat i⟩ : EgM)
theorem readsTo_succ (l : List OpM) (k : Nat) : readsTo l (k + 1) = readsTo l k ++ if ((l[k]!).kind == 1) = true then [⟨(k : Int), lastTo l (l[k]!).item.toNat k⟩] else [] := by
  unfold readsTo
  rw [List.range_succ, List.filter_append, List.map_append]
  congr 1
  generalize hp : (fun i : Nat => (l[i]!).kind == 1) = p
  have hk : ((l[k]!).kind == 1) = p k := by rw [← hp]
  rw [hk]
  cases h : p k <;> simp [h]
theorem readsTo_len (l : List OpM) (k : Nat) : (readsTo l k).length ≤ k := by
  unfold readsTo
  rw [List.length_map]
  exact Nat.le_trans (List.length_filter_le _ _) (by simp)
/-- The names of the operations: of which transaction, which one. -/
def namesTo (l : List OpM) (k : Nat) : List EgM := (List.range k).map fun i => (⟨(l[i]!).tx, (RunM.ord l i : Int)⟩ : EgM)
theorem namesTo_succ (l : List OpM) (k : Nat) : namesTo l (k + 1) = namesTo l k ++ [⟨(l[k]!).tx, (RunM.ord l k : Int)⟩] := by
  unfold namesTo; rw [List.range_succ, List.map_append]; rfl
theorem namesTo_len (l : List OpM) (k : Nat) : (namesTo l k).length = k := by simp [namesTo]
theorem namesTo_get (l : List OpM) {i k : Nat} (h : i < k) : (namesTo l k)[i]! = ⟨(l[i]!).tx, (RunM.ord l i : Int)⟩ := by
  rw [getElem!_pos _ _ (by rw [namesTo_len]; exact h)]
  simp [namesTo]
/-- The name of a place, or of none. -/
def nmOf (l : List OpM) (k : Int) : EgM := if k < 0 then ⟨-1, -1⟩ else ⟨(l[k.toNat]!).tx, (RunM.ord l k.toNat : Int)⟩
/-- From whom each read is, among the first k reads. -/
def viewTo (l : List OpM) (k : Nat) : List (EgM × EgM) := ((readsTo l l.length).take k).map fun s => (nmOf l s.frm, nmOf l s.to_)
def view (l : List OpM) : List (EgM × EgM) := (readsTo l l.length).map fun s => (nmOf l s.frm, nmOf l s.to_)
theorem viewTo_all (l : List OpM) : viewTo l (readsTo l l.length).length = view l := by
  unfold viewTo view; rw [List.take_length]
theorem viewTo_succ (l : List OpM) {k : Nat} (h : k < (readsTo l l.length).length) : viewTo l (k + 1) = viewTo l k ++ [(nmOf l ((readsTo l l.length)[k]).frm, nmOf l ((readsTo l l.length)[k]).to_)] := by
  unfold viewTo
  rw [List.take_succ_eq_append_getElem h, List.map_append]; rfl
/-- Whose write of an item is last. -/
def lastN (l : List OpM) (it : Nat) : EgM := nmOf l (lastTo l it l.length)
/-- What see.Alike answers of right runs in which nobody aborts. -/
def alike (a b : List OpM) : Bool := (List.range 20).all (fun it => decide (lastN a it = lastN b it)) && decide ((view a).length = (view b).length) && (view a).all (fun p => decide (p ∈ view b))
end SeeM
end
section
open Go.RowKit Go.Lib

theorem ownBlock_nil_slice (n : Nat) : (Value.slice none n 0).ownBlock = none := rfl
/-- Pairs of ints of any element type. -/
theorem egs_own (T : Nat) {w : World} {base n : Nat} {v : Value} {l : List EgM} (h : w.ownsRow base T 2 v n (egVals l)) : ∃ ao cap, v = .slice ao l.length cap ∧ n = l.length ∧ EgsAt w ao l ∧ (ao = none → cap = 0) ∧ l.length ≤ cap := by
  have hl : n = l.length := by have := h.1; rw [egVals_len] at this; omega
  rcases h.2 with ⟨h1, h2⟩ | ⟨g, cap, cur, h1, h2, h3, h4, _⟩
  · have : l = [] := List.eq_nil_of_length_eq_zero (by omega)
    subst this
    exact ⟨none, 0, h1, hl, Or.inl rfl, fun _ => rfl, Nat.le_refl _⟩
  · subst hl
    refine ⟨_, cap, h1, rfl, Or.inr ⟨g, 0, rfl, (Array.getElem?_eq_some_iff.1 h3).1, fun k hk => ?_⟩, (fun h => by cases h), h4⟩
    have ho := h
    rw [h1] at ho
    obtain ⟨c0, c1⟩ := egVals_at l k hk
    rw [Nat.zero_add, ho.cellAt (k * 2) (by omega), ho.cellAt (k * 2 + 1) (by omega)]
    exact ⟨c0, c1⟩

/-- In the loop: w: the call's; P: the block of the slice that came in; N: the table's. -/
structure SeeM.RW (w : World) (ao : Option Addr) (cap P N : Nat) (l : List OpM) (k : Nat) (vw : Nat → Value) (vo : Value) (wr : World) : Prop where
  hP : w.heap.size ≤ P
  hN : P < N
  par : Blk wr P 22 [.slice ao l.length cap]
  tab : Blk wr N 99 (Tab 20 vw)
  fam : Fam wr w.heap.size 20 3 1 vw (fun i => (SeeM.wl l i k).length) (fun i => intVals (SeeM.wl l i k))
  out : wr.ownsRow w.heap.size 51 2 vo (SeeM.readsTo l k).length (egVals (SeeM.readsTo l k))
  below : Below w.heap.size w wr
section
variable {w wr W : World} {ao : Option Addr} {cap P N k : Nat} {l : List OpM} {vw : Nat → Value} {vo : Value}
theorem SeeM.RW.after (h : SeeM.RW w ao cap P N l k vw vo wr) (hb : Below wr.heap.size wr W) : SeeM.RW w ao cap P N l k vw vo W :=
  ⟨h.hP, h.hN, h.par.after hb, h.tab.after hb, h.fam.after hb, ownsRow_below h.out hb, below_tr h.below hb⟩
theorem SeeM.RW.alloc (h : SeeM.RW w ao cap P N l k vw vo wr) (o : Obj) : SeeM.RW w ao cap P N l k vw vo (wr.alloc o) := h.after ((Below.refl _ _).alloc (Nat.le_refl _) o)
theorem SeeM.RW.drew (h : SeeM.RW w ao cap P N l k vw vo wr) : SeeM.RW w ao cap P N l k vw vo wr.drew := h.after (Below.refl _ _).drew
/-- Neither a read nor a write. -/
theorem SeeM.RW.skip (h : SeeM.RW w ao cap P N l k vw vo wr) (h1 : (l[k]!).kind ≠ 1) (h2 : (l[k]!).kind ≠ 2) : SeeM.RW w ao cap P N l (k + 1) vw vo wr := by
  have e := SeeM.wl_same l k h2
  have e1 : (fun i => (SeeM.wl l i (k + 1)).length) = fun i => (SeeM.wl l i k).length := by funext i; rw [congrFun e i]
  have e2 : (fun i => intVals (SeeM.wl l i (k + 1))) = fun i => intVals (SeeM.wl l i k) := by funext i; rw [congrFun e i]
  have e3 : SeeM.readsTo l (k + 1) = SeeM.readsTo l k := by
    rw [SeeM.readsTo_succ, if_neg (by simpa using h1), List.append_nil]
  exact ⟨h.hP, h.hN, h.par, h.tab, by rw [e1, e2]; exact h.fam, by rw [e3]; exact h.out, h.below⟩
/-- A read: the row of what is read has grown. -/
theorem SeeM.RW.read (h : SeeM.RW w ao cap P N l k vw vo wr) (h1 : (l[k]!).kind = 1) {vo' : Value} (hg : wr.grownBy W vo.ownBlock)
    (ho : W.ownsRow w.heap.size 51 2 vo' ((SeeM.readsTo l k).length + 1) (egVals (SeeM.readsTo l k) ++ [.int .i64 (k : Int), .int .i64 (SeeM.lastTo l (l[k]!).item.toNat k)])) : SeeM.RW w ao cap P N l (k + 1) vw vo' W := by
  have e := SeeM.wl_same l k (by omega)
  have e1 : (fun i => (SeeM.wl l i (k + 1)).length) = fun i => (SeeM.wl l i k).length := by funext i; rw [congrFun e i]
  have e2 : (fun i => intVals (SeeM.wl l i (k + 1))) = fun i => intVals (SeeM.wl l i k) := by funext i; rw [congrFun e i]
  have e3 : SeeM.readsTo l (k + 1) = SeeM.readsTo l k ++ [⟨(k : Int), SeeM.lastTo l (l[k]!).item.toNat k⟩] := by
    rw [SeeM.readsTo_succ, if_pos (by simpa using h1)]
  refine ⟨h.hP, h.hN, h.par.grown hg (h.par.ne_own h.out (by decide)), h.tab.grown hg (h.tab.ne_own h.out (by decide)), ?_, ?_, h.below.grown hg h.below.size (fun b hb => (h.out.lt b hb).1)⟩
  · rw [e1, e2]
    refine h.fam.kept hg (fun i hi => ?_)
    exact own_apart (h.fam.own i hi) h.out (by decide)
  · rw [e3, egVals_append, List.length_append]; exact ho
/-- A write: the row of an item has grown. -/
theorem SeeM.RW.write (h : SeeM.RW w ao cap P N l k vw vo wr) (h1 : (l[k]!).kind = 2) {it : Nat} (hit : it < 20) (hi : (l[k]!).item = (it : Int)) {g gc : Nat} (hg : wr.grownBy W (vw it).ownBlock)
    (ho : W.ownsRow w.heap.size 3 1 (.slice (some ⟨g, 0, none⟩) ((SeeM.wl l it k).length + 1) gc) ((SeeM.wl l it k).length + 1) (intVals (SeeM.wl l it k) ++ [.int .i64 (k : Int)])) (hat : (vw it).ownBlock = some g ∨ g = wr.heap.size) :
    SeeM.RW w ao cap P N l (k + 1) (upd vw it (.slice (some ⟨g, 0, none⟩) ((SeeM.wl l it k).length + 1) gc)) vo (W.setCell ⟨N, it, none⟩ (.slice (some ⟨g, 0, none⟩) ((SeeM.wl l it k).length + 1) gc)) := by
  have e := SeeM.wl_upd l k it h1 hi
  have hlen : ((SeeM.wl l it k).length + 1) = (SeeM.wl l it k ++ [(k : Int)]).length := by simp
  have hvs : intVals (SeeM.wl l it k) ++ [.int .i64 (k : Int)] = intVals (SeeM.wl l it k ++ [(k : Int)]) := by rw [intVals_append]; rfl
  have e1 : (fun i => (SeeM.wl l i (k + 1)).length) = upd (fun i => (SeeM.wl l i k).length) it ((SeeM.wl l it k).length + 1) := by
    funext i; rw [congrFun e i]; unfold upd; split
    · simp
    · rfl
  have e2 : (fun i => intVals (SeeM.wl l i (k + 1))) = upd (fun i => intVals (SeeM.wl l i k)) it (intVals (SeeM.wl l it k) ++ [.int .i64 (k : Int)]) := by
    funext i; rw [congrFun e i]; unfold upd; split
    · exact hvs.symm
    · rfl
  have e3 : SeeM.readsTo l (k + 1) = SeeM.readsTo l k := by
    rw [SeeM.readsTo_succ, if_neg (by rw [h1]; decide), List.append_nil]
  have hr := h.fam.own it hit
  have hp := h.par.grown hg (h.par.ne_own hr (by decide))
  have ht := h.tab.grown hg (h.tab.ne_own hr (by decide))
  have ha := own_apart h.out hr (by decide)
  have hO : W.ownsRow w.heap.size 51 2 vo (SeeM.readsTo l k).length (egVals (SeeM.readsTo l k)) := h.out.kept hg ha
  have hf := h.fam.append hit ho hg (by
    rcases hat with h2 | h2
    · left; rw [h2]; rfl
    · right; rw [h2]; rfl)
  refine ⟨h.hP, h.hN, hp.other (by have := h.hN; show P ≠ N; omega) _, ht.tabSet it _, ?_, ?_, (h.below.grown hg h.below.size (fun b hb => (hr.lt b hb).1)).setCell (by have := h.hP; have := h.hN; show _ ≤ N; omega) _⟩
  · rw [e1, e2]; exact hf.setCell ht (by decide) _ _
  · rw [e3]; exact ownsRow_setCell_other hO (ht.ne_own hO (by decide)) _
end
end
end Go.Proofs.Ytnhhjjhhicmfpaa
