/- Tarjan's walker in memory. -/
import Derived.Test.YtgkclgmekbgjmaaTjM
import Derived.Test.YtgkclgmekbgjmaaGrO
namespace Go.Proofs.Ytgkclgmekbgjmaa
open Go.RowKit Go.Lib

theorem tj_far {w w1 : World} {base base' e e' size size' n n' : Nat} {row u : Value} {xs xs' : List Value} (hno : w.ownsRow base e size row n xs) (hg : w.grownBy w1 row.ownBlock) (hu : w.ownsRow base' e' size' u n' xs') (h1 : e' ≠ e) : w1.ownsRow base' e' size' u n' xs' :=
  hu.kept hg (by
    cases hb : u.ownBlock with
    | none => exact Or.inl rfl
    | some b =>
      refine Or.inr (fun e2 => ?_)
      rcases hu.2 with ⟨rfl, _⟩ | ⟨q, _, cur, rfl, _, hq, _⟩
      · simp [Value.ownBlock] at hb
      · rcases hno.2 with ⟨h5, _⟩ | ⟨q2, _, cur2, h5, _, hq2, _⟩
        · rw [h5] at e2; simp [Value.ownBlock] at e2
        · rw [h5] at e2
          simp only [Value.ownBlock, Option.some.injEq] at hb e2
          subst hb; subst e2
          rw [hq] at hq2
          injection hq2 with hq2
          injection hq2 with _ h6
          exact h1 h6)
/-- A beginning of an own row. -/
theorem ownsRow_front {w : World} {base e size g cap n : Nat} {xs : List Value} (h : w.ownsRow base e size (.slice (some ⟨g, 0, none⟩) n cap) n xs) {m : Nat} (hm : m ≤ n) : w.ownsRow base e size (.slice (some ⟨g, 0, none⟩) m cap) m (xs.take (m * size)) := by
  obtain ⟨h1, h2⟩ := h
  have hle : m * size ≤ n * size := Nat.mul_le_mul_right _ hm
  refine ⟨by rw [List.length_take]; omega, ?_⟩
  rcases h2 with ⟨h0, _⟩ | ⟨g', cap', cur, hv, hg, hh, hn, hcap, hsz, htake⟩
  · cases h0
  · cases hv
    refine .inr ⟨g, cap, cur, rfl, hg, hh, by omega, hcap, hsz, ?_⟩
    rw [← htake, List.take_take, Nat.min_eq_left hle]
/-- One row is new. -/
theorem Fam.fresh {w w' : World} {base N e size k n' : Nat} {v : Nat → Value} {m : Nat → Nat} {xs : Nat → List Value} {v' : Value} {ys : List Value} (h : Fam w base N e size v m xs)
    (ho : w'.ownsRow base e size v' n' ys) (hb : Below w.heap.size w w') (hat : ∀ g, v'.ownBlock = some g → w.heap.size ≤ g) : Fam w' base N e size (upd v k v') (upd m k n') (upd xs k ys) := by
  have hlt : ∀ i, i < N → ∀ g, (v i).ownBlock = some g → g < w.heap.size := fun i hi g hg => ((h.own i hi).lt g hg).2
  refine ⟨fun i hi => ?_, fun i j hi hj hij g h1 => ?_⟩
  · by_cases e : i = k
    · subst e; rw [upd_same, upd_same, upd_same]; exact ho
    · rw [upd_other _ _ e, upd_other _ _ e, upd_other _ _ e]
      exact ownsRow_below (h.own i hi) hb
  · by_cases ei : i = k
    · subst ei
      rw [upd_same] at h1
      rw [upd_other _ _ (Ne.symm hij)]
      intro h3
      have := hlt j hj g h3
      have := hat g h1
      omega
    · rw [upd_other _ _ ei] at h1
      by_cases ej : j = k
      · subst ej
        rw [upd_same]
        intro h3
        have := hlt i hi g h1
        have := hat g h3
        omega
      · rw [upd_other _ _ ej]
        exact h.apart i j hi hj hij g h1
/-- One row lies in the block in which it lay. -/
theorem Fam.turn {w : World} {base N e size k n' : Nat} {v : Nat → Value} {m : Nat → Nat} {xs : Nat → List Value} {v' : Value} {ys : List Value} (h : Fam w base N e size v m xs) (hk : k < N)
    (ho : w.ownsRow base e size v' n' ys) (hat : v'.ownBlock = (v k).ownBlock) : Fam w base N e size (upd v k v') (upd m k n') (upd xs k ys) := by
  refine ⟨fun i hi => ?_, fun i j hi hj hij g h1 => ?_⟩
  · by_cases e : i = k
    · subst e; rw [upd_same, upd_same, upd_same]; exact ho
    · rw [upd_other _ _ e, upd_other _ _ e, upd_other _ _ e]; exact h.own i hi
  · have hv : ∀ a, (upd v k v' a).ownBlock = (v a).ownBlock := fun a => by
      by_cases e : a = k
      · subst e; rw [upd_same]; exact hat
      · rw [upd_other _ _ e]
    rw [hv] at h1 ⊢
    exact h.apart i j hi hj hij g h1
theorem Fam.like {w : World} {base N e size : Nat} {v v' : Nat → Value} {m m' : Nat → Nat} {xs xs' : Nat → List Value} (h : Fam w base N e size v m xs) (h1 : ∀ i, i < N → v' i = v i) (h2 : ∀ i, i < N → m' i = m i) (h3 : ∀ i, i < N → xs' i = xs i) : Fam w base N e size v' m' xs' :=
  ⟨fun i hi => by rw [h1 i hi, h2 i hi, h3 i hi]; exact h.own i hi, fun i j hi hj hij g hg => by rw [h1 i hi] at hg; rw [h1 j hj]; exact h.apart i j hi hj hij g hg⟩

/-- All but three blocks is as it was. -/
structure Kept (A B W base : Nat) (w1 wr : World) : Prop where
  size : base ≤ wr.heap.size
  at_ : ∀ b, b < base → b ≠ A → b ≠ B → b ≠ W → wr.heap[b]? = w1.heap[b]?
section
variable {A B W base : Nat} {w1 wr w' : World}
theorem Kept.to (h : Kept A B W base w1 wr) (hs : wr.heap.size ≤ w'.heap.size) (hb : ∀ b, b < base → b ≠ A → b ≠ B → b ≠ W → w'.heap[b]? = wr.heap[b]?) : Kept A B W base w1 w' :=
  ⟨Nat.le_trans h.size hs, fun b h1 h2 h3 h4 => (hb b h1 h2 h3 h4).trans (h.at_ b h1 h2 h3 h4)⟩
theorem Kept.set (h : Kept A B W base w1 wr) {p : Addr} (hp : p.block = A ∨ p.block = B ∨ p.block = W) (u : Value) : Kept A B W base w1 (wr.setCell p u) :=
  h.to (by simp [World.setCell]) (fun b _ h2 h3 h4 => Below.heap_setCell _ _ _ _ (by omega))
theorem Kept.alloc (h : Kept A B W base w1 wr) (o : Obj) : Kept A B W base w1 (wr.alloc o) :=
  h.to (by simp) (fun b hb _ _ _ => Below.heap_alloc _ _ _ (Nat.lt_of_lt_of_le hb h.size))
theorem Kept.below (h : Kept A B W base w1 wr) (hb : Below wr.heap.size wr w') : Kept A B W base w1 w' :=
  h.to hb.size (fun b h1 _ _ _ => hb.block b (Nat.lt_of_lt_of_le h1 h.size))
theorem Kept.grown (h : Kept A B W base w1 wr) {row : Option Nat} (hg : wr.grownBy w' row) (hr : ∀ k, row = some k → base ≤ k) : Kept A B W base w1 w' :=
  h.to hg.size (fun b h1 _ _ _ => hg.block b (Nat.lt_of_lt_of_le h1 h.size) (fun e => by have := hr b e.symm; omega))
end

def TjM.row (s : TjSt) (i : Nat) : List Nat := if i = 100 then s.stack else (s.parts[i]?).getD []
def TjM.cells (n O A B : Nat) (sv pv : Value) (time : Nat) : List Value := [.slice (some ⟨O, 0, none⟩) n n, .slice (some ⟨A, 0, none⟩) n n, .slice (some ⟨B, 0, none⟩) n n, sv, pv, .int .i64 (time : Int)]
/-- What stays. -/
structure TjFix (n : Nat) (l : List EgM) (w w1 : World) (O A B W base : Nat) (a : Nat → Option Addr) (c : Nat → Nat) : Prop where
  lt : A < base ∧ B < base ∧ W < base
  le : w.heap.size ≤ A ∧ w.heap.size ≤ B ∧ w.heap.size ≤ W ∧ w.heap.size ≤ base
  ne : A ≠ B
  rows : ∀ wr, Kept A B W base w1 wr → ∀ k, k < n → wr.cell? ⟨O, k, none⟩ = some (.slice (a k) (GrM.next n l k).length (c k)) ∧ IntsAt wr (a k) (GrM.ints (GrM.next n l k))
structure TjMem (n : Nat) (w w1 : World) (O A B W base : Nat) (s : TjSt) (v : Nat → Value) (pv : Value) (wr : World) : Prop where
  below : Below w.heap.size w wr
  kept : Kept A B W base w1 wr
  blk : Blk wr W 116 (TjM.cells n O A B (v 100) pv s.time)
  wt : ITab wr A n (fun x => (s.when x : Int))
  lt : ITab wr B n (fun x => (s.low x : Int))
  fam : Fam wr base 101 3 1 v (fun i => (TjM.row s i).length) (fun i => intVals (GrM.ints (TjM.row s i)))
  tab : wr.ownsRow base 31 1 pv s.parts.length ((List.range s.parts.length).map v)
section
variable {n : Nat} {l : List EgM} {w w1 wr w' : World} {O A B W base : Nat} {a : Nat → Option Addr} {c : Nat → Nat} {s : TjSt} {v : Nat → Value} {pv : Value}
theorem TjMem.alloc (h : TjMem n w w1 O A B W base s v pv wr) (hf : TjFix n l w w1 O A B W base a c) (o : Obj) : TjMem n w w1 O A B W base s v pv (wr.alloc o) :=
  ⟨h.below.alloc (Nat.le_trans hf.le.2.2.2 h.kept.size) o, h.kept.alloc o, h.blk.alloc o, Blk.alloc h.wt o, Blk.alloc h.lt o, h.fam.alloc o, h.tab.alloc o⟩
theorem TjMem.drew (h : TjMem n w w1 O A B W base s v pv wr) : TjMem n w w1 O A B W base s v pv wr.drew :=
  ⟨h.below.drew, ⟨h.kept.size, h.kept.at_⟩, h.blk.drew, Blk.drew h.wt, Blk.drew h.lt, h.fam.drew, h.tab.drew⟩
theorem TjMem.drewN (h : TjMem n w w1 O A B W base s v pv wr) (q : Nat) : TjMem n w w1 O A B W base s v pv (wr.drewN q) :=
  ⟨⟨h.below.os, h.below.tape, h.below.output, h.below.size, h.below.block⟩, ⟨h.kept.size, h.kept.at_⟩, h.blk.drewN q, Blk.drewN h.wt q, Blk.drewN h.lt q, ⟨h.fam.own, h.fam.apart⟩, h.tab⟩
theorem TjMem.neA (h : TjMem n w w1 O A B W base s v pv wr) : W ≠ A := Blk.ne (t' := 3) h.blk h.wt (by decide)
theorem TjMem.neB (h : TjMem n w w1 O A B W base s v pv wr) : W ≠ B := Blk.ne (t' := 3) h.blk h.lt (by decide)
theorem TjMem.lowered (h : TjMem n w w1 O A B W base s v pv wr) (hf : TjFix n l w w1 O A B W base a c) (k x : Nat) : TjMem n w w1 O A B W base { s with low := upd s.low k x } v pv (wr.setCell ⟨B, k, none⟩ (.int .i64 (x : Int))) where
  below := h.below.setCell hf.le.2.1 _
  kept := h.kept.set (Or.inr (Or.inl rfl)) _
  blk := h.blk.other h.neB _
  wt := Blk.other h.wt hf.ne _
  lt := (h.lt.set k (x : Int)).congr (fun i _ => by unfold upd; dsimp only; split <;> rfl)
  fam := ⟨fun i hi => ownsRow_setCell_below (h.fam.own i hi) hf.lt.2.1 _, h.fam.apart⟩
  tab := ownsRow_setCell_below h.tab hf.lt.2.1 _
theorem TjMem.whened (h : TjMem n w w1 O A B W base s v pv wr) (hf : TjFix n l w w1 O A B W base a c) (k x : Nat) : TjMem n w w1 O A B W base { s with when := upd s.when k x } v pv (wr.setCell ⟨A, k, none⟩ (.int .i64 (x : Int))) where
  below := h.below.setCell hf.le.1 _
  kept := h.kept.set (Or.inl rfl) _
  blk := h.blk.other h.neA _
  wt := (h.wt.set k (x : Int)).congr (fun i _ => by unfold upd; dsimp only; split <;> rfl)
  lt := Blk.other h.lt (Ne.symm hf.ne) _
  fam := ⟨fun i hi => ownsRow_setCell_below (h.fam.own i hi) hf.lt.1 _, h.fam.apart⟩
  tab := ownsRow_setCell_below h.tab hf.lt.1 _
theorem TjMem.timed (h : TjMem n w w1 O A B W base s v pv wr) (hf : TjFix n l w w1 O A B W base a c) (x : Nat) : TjMem n w w1 O A B W base { s with time := x } v pv (wr.setCell ⟨W, 5, none⟩ (.int .i64 (x : Int))) where
  below := h.below.setCell hf.le.2.2.1 _
  kept := h.kept.set (Or.inr (Or.inr rfl)) _
  blk := h.blk.set 5 _
  wt := Blk.other h.wt (Ne.symm h.neA) _
  lt := Blk.other h.lt (Ne.symm h.neB) _
  fam := ⟨fun i hi => ownsRow_setCell_below (h.fam.own i hi) hf.lt.2.2 _, h.fam.apart⟩
  tab := ownsRow_setCell_below h.tab hf.lt.2.2 _
/-- The stack has grown. -/
theorem TjMem.pushed (h : TjMem n w w1 O A B W base s v pv wr) (hf : TjFix n l w w1 O A B W base a c) (hp : s.parts.length ≤ 100) {k : Nat} {sv : Value} (ho : w'.ownsRow base 3 1 sv (s.stack.length + 1) (intVals (GrM.ints (s.stack ++ [k])))) (hg : wr.grownBy w' (v 100).ownBlock) (hat : sv.ownBlock = (v 100).ownBlock ∨ sv.ownBlock = some wr.heap.size) :
    TjMem n w w1 O A B W base { s with stack := s.stack ++ [k] } (upd v 100 sv) pv (w'.setCell ⟨W, 3, none⟩ sv) := by
  have ho100 := h.fam.own 100 (by omega)
  have hrow : ∀ q, (v 100).ownBlock = some q → base ≤ q := fun q hq => (ho100.lt q hq).1
  have hk := h.kept.grown hg hrow
  have hA : some A ≠ (v 100).ownBlock := fun e => by have := hrow A e.symm; have := hf.lt.1; omega
  have hB : some B ≠ (v 100).ownBlock := fun e => by have := hrow B e.symm; have := hf.lt.2.1; omega
  have hW : some W ≠ (v 100).ownBlock := fun e => by have := hrow W e.symm; have := hf.lt.2.2; omega
  have bW := h.blk.grown hg (Ne.symm hW)
  have bA : ITab w' A n _ := Blk.grown h.wt hg (Ne.symm hA)
  have bB : ITab w' B n _ := Blk.grown h.lt hg (Ne.symm hB)
  have hF := Fam.append h.fam (k := 100) (by omega) ho hg hat
  have hT := tj_far ho100 hg h.tab (by decide)
  refine ⟨(h.below.grown hg (Nat.le_trans hf.le.2.2.2 h.kept.size) (fun q hq => Nat.le_trans hf.le.2.2.2 (hrow q hq))).setCell hf.le.2.2.1 _, hk.set (Or.inr (Or.inr rfl)) _, ?_, Blk.other bA (Ne.symm h.neA) _, Blk.other bB (Ne.symm h.neB) _, ?_, ?_⟩
  · have := bW.set 3 sv
    rw [upd_same]
    exact this
  · refine ⟨fun i hi => ownsRow_setCell_below ?_ hf.lt.2.2 _, hF.apart⟩
    have := hF.own i hi
    by_cases e : i = 100
    · subst e
      rw [upd_same, upd_same, upd_same] at this
      rw [upd_same]
      show w'.ownsRow _ _ _ _ (s.stack ++ [k]).length _
      rw [List.length_append, List.length_singleton]
      exact this
    · rw [upd_other _ _ e, upd_other _ _ e, upd_other _ _ e] at this
      rw [upd_other _ _ e]
      have h2 : TjM.row { s with stack := s.stack ++ [k] } i = TjM.row s i := by unfold TjM.row; rw [if_neg e, if_neg e]
      rw [h2]; exact this
  · refine ownsRow_setCell_below (a := ⟨W, 3, none⟩) ?_ hf.lt.2.2 _
    have e : (List.range s.parts.length).map (upd v 100 sv) = (List.range s.parts.length).map v := List.map_congr_left (fun i hi => upd_other _ _ (by have := List.mem_range.1 hi; omega))
    show w'.ownsRow _ _ _ _ s.parts.length ((List.range s.parts.length).map (upd v 100 sv))
    rw [e]; exact hT
/-- A part is laid by: its row was made (w2), the table of the parts has grown (w'). -/
theorem TjMem.parted (h : TjMem n w w1 O A B W base s v pv wr) (hf : TjFix n l w w1 O A B W base a c) (hp : s.parts.length < 100) {w2 : World} {p : List Nat} {nv pv' : Value} (hb : Below wr.heap.size wr w2) (ho : w2.ownsRow base 3 1 nv p.length (intVals (GrM.ints p))) (hn : ∀ g, nv.ownBlock = some g → wr.heap.size ≤ g)
    (hg : w2.grownBy w' pv.ownBlock) (ht : w'.ownsRow base 31 1 pv' (s.parts.length + 1) ((List.range s.parts.length).map v ++ [nv])) :
    TjMem n w w1 O A B W base { s with parts := s.parts ++ [p] } (upd v s.parts.length nv) pv' (w'.setCell ⟨W, 4, none⟩ pv') := by
  have hT := ownsRow_below h.tab hb
  have hrow : ∀ q, pv.ownBlock = some q → base ≤ q := fun q hq => (h.tab.lt q hq).1
  have hk2 := h.kept.below hb
  have hk := hk2.grown hg hrow
  have hF2 := Fam.fresh h.fam (k := s.parts.length) ho hb hn
  have hne : ∀ {b t C}, b < base → Blk w2 b t C → Blk w' b t C := fun hb hB => Blk.grown hB hg (fun e => by have := hrow _ e; omega)
  have bW := hne hf.lt.2.2 (h.blk.after hb)
  have bA : ITab w' A n _ := hne hf.lt.1 (Blk.after h.wt hb)
  have bB : ITab w' B n _ := hne hf.lt.2.1 (Blk.after h.lt hb)
  refine ⟨((h.below.trans (hb.mono h.below.size)).grown hg (Nat.le_trans hf.le.2.2.2 hk2.size) (fun q hq => Nat.le_trans hf.le.2.2.2 (hrow q hq))).setCell hf.le.2.2.1 _, hk.set (Or.inr (Or.inr rfl)) _, ?_, Blk.other bA (Ne.symm h.neA) _, Blk.other bB (Ne.symm h.neB) _, ?_, ?_⟩
  · have := bW.set 4 pv'
    rw [upd_other _ _ (by omega)]
    exact this
  · refine ⟨fun i hi => ownsRow_setCell_below ?_ hf.lt.2.2 _, hF2.apart⟩
    have hi2 := tj_far hT hg (hF2.own i hi) (by decide)
    by_cases e : i = s.parts.length
    · subst e
      rw [upd_same, upd_same, upd_same] at hi2
      rw [upd_same]
      have h2 : TjM.row { s with parts := s.parts ++ [p] } s.parts.length = p := by
        unfold TjM.row
        rw [if_neg (by omega)]; simp
      rw [h2]; exact hi2
    · rw [upd_other _ _ e, upd_other _ _ e, upd_other _ _ e] at hi2
      rw [upd_other _ _ e]
      have h2 : TjM.row { s with parts := s.parts ++ [p] } i = TjM.row s i := by
        unfold TjM.row
        split
        · rfl
        · dsimp only
          by_cases hl : i < s.parts.length
          · rw [List.getElem?_append_left hl]
          · rw [List.getElem?_eq_none (by simp; omega), List.getElem?_eq_none (by omega)]
      rw [h2]; exact hi2
  · refine ownsRow_setCell_below (a := ⟨W, 4, none⟩) ?_ hf.lt.2.2 _
    show w'.ownsRow _ _ _ _ (s.parts ++ [p]).length ((List.range (s.parts ++ [p]).length).map (upd v s.parts.length nv))
    rw [List.length_append, List.length_singleton, List.range_succ, List.map_append, List.map_singleton, upd_same]
    have e : (List.range s.parts.length).map (upd v s.parts.length nv) = (List.range s.parts.length).map v := List.map_congr_left (fun i hi => upd_other _ _ (by have := List.mem_range.1 hi; omega))
    rw [e]; exact ht
/-- The stack is cut. -/
theorem TjMem.cut (h : TjMem n w w1 O A B W base s v pv wr) (hf : TjFix n l w w1 O A B W base a c) (hp : s.parts.length ≤ 100) {m g cap : Nat} (hm : m ≤ s.stack.length) (hv : v 100 = .slice (some ⟨g, 0, none⟩) s.stack.length cap) :
    TjMem n w w1 O A B W base { s with stack := s.stack.take m } (upd v 100 (.slice (some ⟨g, 0, none⟩) m cap)) pv (wr.setCell ⟨W, 3, none⟩ (.slice (some ⟨g, 0, none⟩) m cap)) := by
  have ho := h.fam.own 100 (by omega)
  rw [hv] at ho
  have ho2 : wr.ownsRow base 3 1 (.slice (some ⟨g, 0, none⟩) m cap) m (intVals (GrM.ints (s.stack.take m))) := by
    have e : TjM.row s 100 = s.stack := rfl
    rw [e] at ho
    have := ownsRow_front ho hm
    have e2 : (intVals (GrM.ints s.stack)).take (m * 1) = intVals (GrM.ints (s.stack.take m)) := by
      unfold intVals GrM.ints
      rw [Nat.mul_one, ← List.map_take, ← List.map_take]
    rwa [e2] at this
  have hF := Fam.turn h.fam (k := 100) (by omega) ho2 (by rw [hv]; rfl)
  refine ⟨h.below.setCell hf.le.2.2.1 _, h.kept.set (Or.inr (Or.inr rfl)) _, ?_, Blk.other h.wt (Ne.symm h.neA) _, Blk.other h.lt (Ne.symm h.neB) _, ?_, ?_⟩
  · have := h.blk.set 3 (.slice (some ⟨g, 0, none⟩) m cap)
    rw [upd_same]
    exact this
  · refine ⟨fun i hi => ownsRow_setCell_below ?_ hf.lt.2.2 _, hF.apart⟩
    have hi2 := hF.own i hi
    by_cases e : i = 100
    · subst e
      rw [upd_same, upd_same, upd_same] at hi2
      rw [upd_same]
      show wr.ownsRow _ _ _ _ (s.stack.take m).length _
      rw [List.length_take, Nat.min_eq_left hm]
      exact hi2
    · rw [upd_other _ _ e, upd_other _ _ e, upd_other _ _ e] at hi2
      rw [upd_other _ _ e]
      have h2 : TjM.row { s with stack := s.stack.take m } i = TjM.row s i := by unfold TjM.row; rw [if_neg e, if_neg e]
      rw [h2]; exact hi2
  · refine ownsRow_setCell_below (a := ⟨W, 3, none⟩) ?_ hf.lt.2.2 _
    have e : (List.range s.parts.length).map (upd v 100 (.slice (some ⟨g, 0, none⟩) m cap)) = (List.range s.parts.length).map v := List.map_congr_left (fun i hi => upd_other _ _ (by have := List.mem_range.1 hi; omega))
    show wr.ownsRow _ _ _ _ s.parts.length ((List.range s.parts.length).map (upd v 100 _))
    rw [e]; exact h.tab
end
end Go.Proofs.Ytgkclgmekbgjmaa
