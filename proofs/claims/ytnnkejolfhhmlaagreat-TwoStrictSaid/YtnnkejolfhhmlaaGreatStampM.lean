/- Play by stamps, in plain Lean: with skipping each item is written last by whom it would be, the older ones going first. -/
import Derived.Test.YtnnkejolfhhmlaaGreatChkI
namespace Go.Proofs.YtnnkejolfhhmlaaGreat
open Go.RowKit Go.Lib

structure SSt where
  dead : Nat → Bool
  rd : Nat → Int
  wr : Nat → Int
  run : List OpM
def StampM.start : SSt := ⟨fun _ => false, fun _ => 0, fun _ => 0, []⟩
def StampM.step (skip : Bool) (st : SSt) (o : OpM) : SSt :=
  if st.dead o.tx.toNat = true then st
  else if 3 ≤ o.kind then { st with run := st.run ++ [o] }
  else if o.kind = 1 ∧ st.wr o.item.toNat ≤ o.tx + 1 then { st with rd := upd st.rd o.item.toNat (max (st.rd o.item.toNat) (o.tx + 1)), run := st.run ++ [o] }
  else if o.kind = 2 ∧ st.rd o.item.toNat ≤ o.tx + 1 ∧ st.wr o.item.toNat ≤ o.tx + 1 then { st with wr := upd st.wr o.item.toNat (o.tx + 1), run := st.run ++ [o] }
  else if o.kind = 2 ∧ st.rd o.item.toNat ≤ o.tx + 1 ∧ skip = true then st
  else { st with dead := upd st.dead o.tx.toNat true, run := st.run ++ [⟨o.tx, 4, 0⟩] }
def StampM.run (skip : Bool) (l : List OpM) : SSt := l.foldl (StampM.step skip) StampM.start
def StampM.dead (st : SSt) : List Nat := (List.range 12).filter st.dead

theorem StampM.go_ok : ∀ (l : List OpM) (ov : Nat → Bool), RunM.go l ov = 0 → ∀ o ∈ l, RunM.bad o = 0
  | o :: l, ov, h, x, hx => by
    unfold RunM.go at h
    split at h
    · rename_i hb; exact absurd h hb
    · rename_i hb
      split at h
      · simp at h
      · rcases List.mem_cons.1 hx with rfl | hx
        · exact Classical.byContradiction hb
        · exact StampM.go_ok l _ h x hx
theorem RunM.check_ok {l : List OpM} (h : RunM.check l = 0) : l.length ≤ 200 ∧ RunM.go l (fun _ => false) = 0 ∧ ∀ o ∈ l, RunM.bad o = 0 := by
  unfold RunM.check at h
  split at h
  · simp at h
  · exact ⟨by omega, h, StampM.go_ok _ _ h⟩

theorem StampM.dead_mono (skip : Bool) (l : List OpM) : ∀ (st : SSt) (x : Nat), st.dead x = true → (l.foldl (StampM.step skip) st).dead x = true := by
  induction l with
  | nil => intro st x h; exact h
  | cons o l ih =>
    intro st x h
    rw [List.foldl_cons]
    refine ih _ x ?_
    unfold StampM.step
    split
    · exact h
    · split
      · exact h
      · split
        · exact h
        · split
          · exact h
          · split
            · exact h
            · simp only [upd]; split
              · rfl
              · exact h
/-- If nobody dies without skipping, nothing is skipped. -/
theorem StampM.no_skip (l : List OpM) : ∀ (st : SSt), (∀ o ∈ l, RunM.bad o = 0) → (∀ x, x < 12 → (l.foldl (StampM.step false) st).dead x = false) → l.foldl (StampM.step true) st = l.foldl (StampM.step false) st := by
  induction l with
  | nil => intro st _ _; rfl
  | cons o l ih =>
    intro st hb hd
    obtain ⟨b1, b2, _⟩ := RunM.bad_zero (hb o (by simp))
    have hx : o.tx.toNat < 12 := by omega
    have hs : StampM.step true st o = StampM.step false st o := by
      unfold StampM.step
      split
      · rfl
      · rename_i h0
        split
        · rfl
        · rename_i h1
          split
          · rfl
          · rename_i h2
            split
            · rfl
            · rename_i h3
              exfalso
              have h4 := hd _ hx
              rw [List.foldl_cons] at h4
              have h5 := StampM.dead_mono false l (StampM.step false st o) o.tx.toNat (by
                unfold StampM.step
                rw [if_neg h0, if_neg h1, if_neg h2, if_neg h3, if_neg (by simp)]
                simp [upd])
              rw [h5] at h4
              simp at h4
    rw [List.foldl_cons, List.foldl_cons, hs]
    exact ih _ (fun x hx => hb x (by simp [hx])) (fun x hx => by have := hd x hx; rwa [List.foldl_cons] at this)
theorem StampM.dead_nil {st : SSt} (h : StampM.dead st = []) : ∀ x, x < 12 → st.dead x = false := by
  intro x hx
  unfold StampM.dead at h
  have := List.filter_eq_nil_iff.1 h x (by simpa using hx)
  simpa using this
theorem StampM.dead_same {l : List OpM} (h : RunM.check l = 0) (hd : StampM.dead (StampM.run false l) = []) : StampM.dead (StampM.run true l) = [] := by
  have := StampM.no_skip l StampM.start (RunM.check_ok h).2.2 (StampM.dead_nil hd)
  unfold StampM.run
  rw [this]
  exact hd

/-- Who wrote an item last. -/
def StampM.lw (it : Nat) (l : List OpM) : Int := l.foldl (fun a o => if o.kind = 2 ∧ o.item.toNat = it then o.tx else a) (-1)
/-- The greatest one that writes an item. -/
def StampM.mx (it : Nat) (l : List OpM) : Int := l.foldl (fun a o => if o.kind = 2 ∧ o.item.toNat = it then max a o.tx else a) (-1)
theorem StampM.lw_snoc (it : Nat) (l : List OpM) (o : OpM) : StampM.lw it (l ++ [o]) = if o.kind = 2 ∧ o.item.toNat = it then o.tx else StampM.lw it l := by
  simp [StampM.lw, List.foldl_append]
theorem StampM.mx_snoc (it : Nat) (l : List OpM) (o : OpM) : StampM.mx it (l ++ [o]) = if o.kind = 2 ∧ o.item.toNat = it then max (StampM.mx it l) o.tx else StampM.mx it l := by
  simp [StampM.mx, List.foldl_append]

/-- While nobody is dead: of each item the greatest writer so far, and 1, and it is the last one written down. -/
structure StampM.Wr (st : SSt) (pre : List OpM) : Prop where
  lw : ∀ it, StampM.lw it st.run = st.wr it - 1
  mx : ∀ it, StampM.mx it pre = st.wr it - 1
theorem StampM.wr_run (l : List OpM) : ∀ (st : SSt) (pre : List OpM), (∀ o ∈ l, RunM.bad o = 0 ∧ o.kind ≠ 4) → (∀ x, st.dead x = false) → StampM.Wr st pre → (∀ x, x < 12 → (l.foldl (StampM.step true) st).dead x = false) →
    StampM.Wr (l.foldl (StampM.step true) st) (pre ++ l) := by
  induction l with
  | nil => intro st pre _ _ h _; simpa using h
  | cons o l ih =>
    intro st pre hb h0 hw hd
    obtain ⟨hbo, hk4⟩ := hb o (by simp)
    obtain ⟨b1, b2, b3, b4, b5, b6, b7⟩ := RunM.bad_zero hbo
    have hx : o.tx.toNat < 12 := by omega
    have key : StampM.Wr (StampM.step true st o) (pre ++ [o]) ∧ ∀ x, (StampM.step true st o).dead x = false := by
      unfold StampM.step
      rw [if_neg (by rw [h0]; simp)]
      split
      · rename_i h3
        refine ⟨⟨fun it => ?_, fun it => ?_⟩, h0⟩
        · rw [StampM.lw_snoc, if_neg (by omega)]; exact hw.lw it
        · rw [StampM.mx_snoc, if_neg (by omega)]; exact hw.mx it
      · rename_i h3
        split
        · rename_i h4
          refine ⟨⟨fun it => ?_, fun it => ?_⟩, h0⟩
          · rw [StampM.lw_snoc, if_neg (by omega)]; exact hw.lw it
          · rw [StampM.mx_snoc, if_neg (by omega)]; exact hw.mx it
        · rename_i h4
          split
          · rename_i h5
            refine ⟨⟨fun it => ?_, fun it => ?_⟩, h0⟩
            · rw [StampM.lw_snoc]
              simp only [upd]
              by_cases e : o.item.toNat = it
              · rw [if_pos ⟨h5.1, e⟩, if_pos e.symm]; omega
              · rw [if_neg (fun h => e h.2), if_neg (fun h => e h.symm)]; exact hw.lw it
            · rw [StampM.mx_snoc]
              simp only [upd]
              by_cases e : o.item.toNat = it
              · rw [if_pos ⟨h5.1, e⟩, if_pos e.symm, hw.mx it]
                have := h5.2.2
                rw [e] at this
                omega
              · rw [if_neg (fun h => e h.2), if_neg (fun h => e h.symm)]; exact hw.mx it
          · rename_i h5
            split
            · rename_i h6
              refine ⟨⟨hw.lw, fun it => ?_⟩, h0⟩
              rw [StampM.mx_snoc]
              by_cases e : o.item.toNat = it
              · rw [if_pos ⟨h6.1, e⟩, hw.mx it]
                have : ¬ st.wr o.item.toNat ≤ o.tx + 1 := fun h => h5 ⟨h6.1, h6.2.1, h⟩
                rw [e] at this
                omega
              · rw [if_neg (fun h => e h.2)]; exact hw.mx it
            · rename_i h6
              exfalso
              have h7 := hd _ hx
              rw [List.foldl_cons] at h7
              have h8 := StampM.dead_mono true l (StampM.step true st o) o.tx.toNat (by
                unfold StampM.step
                rw [if_neg (by rw [h0]; simp), if_neg h3, if_neg h4, if_neg h5, if_neg h6]
                simp [upd])
              rw [h8] at h7
              simp at h7
    have := ih (StampM.step true st o) (pre ++ [o]) (fun x hx => hb x (by simp [hx])) key.2 key.1 (fun x hx => by have := hd x hx; rwa [List.foldl_cons] at this)
    rw [List.append_assoc] at this
    exact this

/-- The transactions one behind another. -/
def StampM.turn (n : Nat) (l : List OpM) : List OpM := (List.range n).flatMap (fun t : Nat => l.filter (fun o => o.tx == (t : Int)))
theorem StampM.lw_append (it : Nat) (a b : List OpM) : StampM.lw it (a ++ b) = if b.any (fun o => decide (o.kind = 2 ∧ o.item.toNat = it)) then StampM.lw it b else StampM.lw it a := by
  rcases List.eq_nil_or_concat b with rfl | ⟨b', o, rfl⟩
  · simp
  · rw [List.concat_eq_append]
    induction b' using snoc_ind generalizing o with
    | nil =>
      rw [List.nil_append, StampM.lw_snoc]
      by_cases h : o.kind = 2 ∧ o.item.toNat = it
      · simp [h, StampM.lw]
      · simp [h]
    | snoc b' p ih =>
      rw [← List.append_assoc, StampM.lw_snoc, StampM.lw_snoc, ih p, List.any_append]
      by_cases h : o.kind = 2 ∧ o.item.toNat = it
      · simp [h]
      · simp [h]
theorem StampM.lw_own (it t : Nat) (l : List OpM) : StampM.lw it (l.filter (fun o => o.tx == (t : Int))) = if l.any (fun o => decide (o.tx = (t : Int) ∧ o.kind = 2 ∧ o.item.toNat = it)) then (t : Int) else -1 := by
  induction l using snoc_ind with
  | nil => simp [StampM.lw]
  | snoc l o ih =>
    rw [List.filter_append, List.any_append]
    by_cases h1 : o.tx = (t : Int)
    · have : [o].filter (fun o => o.tx == (t : Int)) = [o] := by simp [h1]
      rw [this, StampM.lw_snoc]
      by_cases h2 : o.kind = 2 ∧ o.item.toNat = it
      · simp [h1, h2]
      · rw [if_neg h2, ih]; simp [h1, h2]
    · have : [o].filter (fun o => o.tx == (t : Int)) = [] := by simp [h1]
      rw [this, List.append_nil, ih]; simp [h1]
theorem StampM.mx_ge (it : Nat) (l : List OpM) : -1 ≤ StampM.mx it l := by
  induction l using snoc_ind with
  | nil => simp [StampM.mx]
  | snoc l o ih => rw [StampM.mx_snoc]; split <;> omega
theorem StampM.mx_le {it : Nat} {l : List OpM} {o : OpM} (h : o ∈ l) (hw : o.kind = 2 ∧ o.item.toNat = it) : o.tx ≤ StampM.mx it l := by
  induction l using snoc_ind with
  | nil => simp at h
  | snoc l p ih =>
    rw [StampM.mx_snoc]
    rcases List.mem_append.1 h with h1 | h1
    · have := ih h1; split <;> omega
    · rw [List.mem_singleton.1 h1] at hw ⊢
      rw [if_pos hw]; omega
theorem StampM.mx_mem (it : Nat) (l : List OpM) : StampM.mx it l = -1 ∨ ∃ o ∈ l, (o.kind = 2 ∧ o.item.toNat = it) ∧ o.tx = StampM.mx it l := by
  induction l using snoc_ind with
  | nil => left; simp [StampM.mx]
  | snoc l p ih =>
    rw [StampM.mx_snoc]
    split
    · rename_i hp
      by_cases h : StampM.mx it l ≤ p.tx
      · right; exact ⟨p, by simp, hp, by omega⟩
      · rcases ih with h1 | ⟨o, h1, h2, h3⟩
        · have h2 : max (StampM.mx it l) p.tx = StampM.mx it l := by omega
          rw [h2]; left; exact h1
        · right; exact ⟨o, by simp [h1], h2, by omega⟩
    · rcases ih with h1 | ⟨o, h1, h2, h3⟩
      · left; exact h1
      · right; exact ⟨o, by simp [h1], h2, h3⟩
theorem StampM.lw_turn (it : Nat) (l : List OpM) : ∀ n : Nat, (StampM.lw it (StampM.turn n l) = -1 ∧ ∀ o ∈ l, o.kind = 2 ∧ o.item.toNat = it → ¬ (0 ≤ o.tx ∧ o.tx < (n : Int))) ∨
    (∃ o ∈ l, (o.kind = 2 ∧ o.item.toNat = it) ∧ o.tx = StampM.lw it (StampM.turn n l) ∧ 0 ≤ o.tx ∧ o.tx < (n : Int) ∧ ∀ p ∈ l, p.kind = 2 ∧ p.item.toNat = it → p.tx < (n : Int) → p.tx ≤ o.tx) := by
  intro n
  induction n with
  | zero => left; exact ⟨by simp [StampM.turn, StampM.lw], fun o _ _ => by omega⟩
  | succ n ih =>
    have e : StampM.turn (n + 1) l = StampM.turn n l ++ l.filter (fun o => o.tx == (n : Int)) := by simp [StampM.turn, List.range_succ]
    have ea : (l.filter (fun o => o.tx == (n : Int))).any (fun o => decide (o.kind = 2 ∧ o.item.toNat = it)) = l.any (fun o => decide (o.tx = (n : Int) ∧ o.kind = 2 ∧ o.item.toNat = it)) := by
      rw [List.any_filter]
      congr 1; funext o
      by_cases h : o.tx = (n : Int) <;> simp [h]
    rw [e, StampM.lw_append, ea, StampM.lw_own]
    by_cases h : l.any (fun o => decide (o.tx = (n : Int) ∧ o.kind = 2 ∧ o.item.toNat = it)) = true
    · right
      obtain ⟨o, ho, h1⟩ := List.any_eq_true.1 h
      rw [decide_eq_true_eq] at h1
      rw [if_pos h, if_pos h]
      exact ⟨o, ho, h1.2, h1.1, by omega, by omega, fun p _ _ hp => by omega⟩
    · have hn : ∀ o ∈ l, ¬ (o.tx = (n : Int) ∧ o.kind = 2 ∧ o.item.toNat = it) := by
        intro o ho h1
        exact h (List.any_eq_true.2 ⟨o, ho, by simpa using h1⟩)
      rw [if_neg h]
      rcases ih with ⟨h1, h2⟩ | ⟨o, h1, h2, h3, h4, h5, h6⟩
      · left
        refine ⟨h1, fun o ho hw => ?_⟩
        have := h2 o ho hw
        have := hn o ho
        omega
      · right
        refine ⟨o, h1, h2, h3, h4, by omega, fun p hp hw hlt => ?_⟩
        have := hn p hp
        exact h6 p hp hw (by omega)
/-- THOMAS. -/
theorem StampM.law {l : List OpM} (h : RunM.check l = 0) (ha : ∀ o ∈ l, o.kind ≠ 4) (hd : StampM.dead (StampM.run true l) = []) (it : Nat) :
    StampM.lw it (StampM.run true l).run = StampM.lw it (StampM.turn 12 l) := by
  have hok := (RunM.check_ok h).2.2
  have hw := StampM.wr_run l StampM.start [] (fun o ho => ⟨hok o ho, ha o ho⟩) (by simp [start]) ⟨fun it => by simp [StampM.lw, start], fun it => by simp [StampM.mx, start]⟩ (StampM.dead_nil hd)
  rw [List.nil_append] at hw
  have e : StampM.lw it (StampM.run true l).run = StampM.mx it l := by
    have h1 := hw.lw it
    have h2 := hw.mx it
    unfold StampM.run
    rw [h1, h2]
  rw [e]
  have hr : ∀ o ∈ l, 0 ≤ o.tx ∧ o.tx < 12 := fun o ho => by
    obtain ⟨b1, b2, _⟩ := RunM.bad_zero (hok o ho)
    exact ⟨b1, b2⟩
  rcases StampM.lw_turn it l 12 with ⟨h1, h2⟩ | ⟨o, h1, h2, h3, h4, h5, h6⟩
  · rw [h1]
    rcases StampM.mx_mem it l with h3 | ⟨o, h3, h4, h5⟩
    · exact h3
    · exact absurd (hr o h3) (h2 o h3 h4)
  · rw [← h3]
    have g1 := StampM.mx_le h1 h2
    rcases StampM.mx_mem it l with h7 | ⟨p, h7, h8, h9⟩
    · omega
    · have := h6 p h7 h8 (hr p h7).2
      omega
def StampM.inTurn (l : List OpM) (ts : List Int) : List OpM := ts.flatMap (fun t => l.filter (fun o => o.tx == t))
theorem StampM.inTurn_len (l : List OpM) (ts : List Int) : (StampM.inTurn l ts).length ≤ ts.length * l.length := by
  induction ts with
  | nil => simp [StampM.inTurn]
  | cons t ts ih =>
    have h := List.length_filter_le (fun o : OpM => o.tx == t) l
    simp only [StampM.inTurn, List.flatMap_cons, List.length_append, List.length_cons] at ih ⊢
    rw [Nat.add_mul]; omega
end Go.Proofs.YtnnkejolfhhmlaaGreat
