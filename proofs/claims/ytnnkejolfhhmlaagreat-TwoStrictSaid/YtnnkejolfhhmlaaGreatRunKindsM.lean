/- Kinds of runs, in plain Lean: strict ones are cascadeless, these recoverable. -/
import Derived.Test.YtnnkejolfhhmlaaGreatChkI
namespace Go.Proofs.YtnnkejolfhhmlaaGreat
open Go.RowKit Go.Lib

structure KSt where
  en : Nat → Int
  wr : Nat → List Nat
  rd : Nat → List Nat
  rc : Bool
  cc : Bool
  sc : Bool
def KindsM.start : KSt := ⟨fun _ => 0, fun _ => [], fun _ => [], true, true, true⟩
/-- Is a write of t still open, to x? -/
def KindsM.opn (st : KSt) (x t : Nat) : Bool := (t != x) && (st.en t == 0)
def KindsM.see (st : KSt) (o : OpM) : KSt :=
  match (st.wr o.item.toNat).getLast? with
  | none => st
  | some t =>
    if o.kind = 1 ∧ t ≠ o.tx.toNat then { st with sc := st.sc && !KindsM.opn st o.tx.toNat t, cc := st.cc && !KindsM.opn st o.tx.toNat t, rd := upd st.rd o.tx.toNat (st.rd o.tx.toNat ++ [t]) }
    else { st with sc := st.sc && !KindsM.opn st o.tx.toNat t }
def KindsM.put (st : KSt) (o : OpM) : KSt := if o.kind = 2 then { st with wr := upd st.wr o.item.toNat (st.wr o.item.toNat ++ [o.tx.toNat]) } else st
def KindsM.step (st : KSt) (o : OpM) : KSt :=
  if o.kind = 3 then { st with rc := st.rc && (st.rd o.tx.toNat).all (fun t => st.en t == 3), en := upd st.en o.tx.toNat 3 }
  else if o.kind = 4 then { st with en := upd st.en o.tx.toNat 4, wr := fun k => (st.wr k).filter (fun t => t != o.tx.toNat) }
  else KindsM.put (KindsM.see st o) o
def KindsM.run (l : List OpM) : KSt := l.foldl KindsM.step KindsM.start

structure KindsM.Inv (st : KSt) (ov : Nat → Bool) (n : Nat) : Prop where
  w : ∀ k t, t ∈ st.wr k → t < 12 ∧ st.en t ≠ 4
  r : ∀ x t, t ∈ st.rd x → t < 12 ∧ (st.cc = true → st.en t = 3)
  o : ∀ t, ov t = true ↔ st.en t ≠ 0
  e : ∀ t, st.en t = 0 ∨ st.en t = 3 ∨ st.en t = 4
  s : st.sc = true → st.cc = true
  c : st.cc = true → st.rc = true
  lw : ∀ k, (st.wr k).length ≤ n
  lr : ∀ x, (st.rd x).length ≤ n
theorem KindsM.inv_start : KindsM.Inv KindsM.start (fun _ => false) 0 :=
  ⟨by simp [start], by simp [start], by simp [start], by simp [start], by simp [start], by simp [start], by simp [start], by simp [start]⟩

theorem KindsM.inv_see {st : KSt} {ov : Nat → Bool} {n : Nat} {o : OpM} (h : KindsM.Inv st ov n) : KindsM.Inv (KindsM.see st o) ov (n + 1) := by
  unfold KindsM.see
  split
  · exact ⟨h.w, h.r, h.o, h.e, h.s, h.c, fun k => Nat.le_succ_of_le (h.lw k), fun x => Nat.le_succ_of_le (h.lr x)⟩
  · rename_i t ht
    have htm : t ∈ st.wr o.item.toNat := List.mem_of_getLast? ht
    obtain ⟨ht1, ht2⟩ := h.w _ _ htm
    split
    · rename_i hk
      refine ⟨h.w, ?_, h.o, h.e, ?_, ?_, fun k => Nat.le_succ_of_le (h.lw k), ?_⟩
      · intro x y hy
        have hy' : y ∈ st.rd x ∨ (x = o.tx.toNat ∧ y = t) := by
          simp only [upd] at hy
          split at hy
          · rename_i e
            rcases List.mem_append.1 hy with h1 | h1
            · exact Or.inl (e ▸ h1)
            · exact Or.inr ⟨e, List.mem_singleton.1 h1⟩
          · exact Or.inl hy
        rcases hy' with h1 | ⟨_, rfl⟩
        · exact ⟨(h.r x y h1).1, fun hc => (h.r x y h1).2 (by simp at hc; exact hc.1)⟩
        · refine ⟨ht1, fun hc => ?_⟩
          simp only [Bool.and_eq_true, KindsM.opn, Bool.not_eq_true', Bool.and_eq_false_iff] at hc
          have h0 : st.en y ≠ 0 := by
            rcases hc.2 with h1 | h1
            · simp at h1; exact absurd h1 hk.2
            · simpa using h1
          rcases h.e y with h1 | h1 | h1
          · exact absurd h1 h0
          · exact h1
          · exact absurd h1 ht2
      · intro hs
        simp only [Bool.and_eq_true] at hs ⊢
        exact ⟨h.s hs.1, hs.2⟩
      · intro hc
        simp only [Bool.and_eq_true] at hc
        exact h.c hc.1
      · intro x
        have := h.lr x
        have := h.lr o.tx.toNat
        simp only [upd]
        split
        · simp; omega
        · omega
    · refine ⟨h.w, h.r, h.o, h.e, ?_, h.c, fun k => Nat.le_succ_of_le (h.lw k), fun x => Nat.le_succ_of_le (h.lr x)⟩
      intro hs
      simp only [Bool.and_eq_true] at hs
      exact h.s hs.1
theorem KindsM.inv_put {st : KSt} {ov : Nat → Bool} {n : Nat} {o : OpM} (h : KindsM.Inv st ov n) (hl : ∀ k, (st.wr k).length < n) (hx : o.tx.toNat < 12) (h0 : st.en o.tx.toNat = 0) : KindsM.Inv (KindsM.put st o) ov n := by
  unfold KindsM.put
  split
  · refine ⟨?_, h.r, h.o, h.e, h.s, h.c, ?_, h.lr⟩
    · intro k t ht
      simp only [upd] at ht
      split at ht
      · rcases List.mem_append.1 ht with h1 | h1
        · exact h.w _ _ h1
        · rw [List.mem_singleton.1 h1]; exact ⟨hx, by rw [h0]; simp⟩
      · exact h.w _ _ ht
    · intro k
      have := hl k
      have := hl o.item.toNat
      simp only [upd]
      split
      · simp; omega
      · omega
  · exact h
theorem KindsM.see_en (st : KSt) (o : OpM) : (KindsM.see st o).en = st.en ∧ (KindsM.see st o).wr = st.wr := by
  unfold KindsM.see
  split
  · exact ⟨rfl, rfl⟩
  · split <;> exact ⟨rfl, rfl⟩
theorem KindsM.inv_step {st : KSt} {ov : Nat → Bool} {n : Nat} {o : OpM} (h : KindsM.Inv st ov n) (hb : RunM.bad o = 0) (hv : ov o.tx.toNat = false) :
    KindsM.Inv (KindsM.step st o) (upd ov o.tx.toNat (decide (3 ≤ o.kind))) (n + 1) := by
  obtain ⟨b1, b2, b3, b4, b5, b6, b7⟩ := RunM.bad_zero hb
  have h0 : st.en o.tx.toNat = 0 := by
    have := h.o o.tx.toNat
    rw [hv] at this
    exact Classical.byContradiction fun hn => by simpa using this.2 hn
  have lw := fun k => Nat.le_succ_of_le (h.lw k)
  have lr := fun k => Nat.le_succ_of_le (h.lr k)
  unfold KindsM.step
  split
  · rename_i hk
    refine ⟨?_, ?_, ?_, ?_, h.s, ?_, lw, lr⟩
    · intro k t ht
      refine ⟨(h.w k t ht).1, ?_⟩
      simp only [upd]
      split
      · simp
      · exact (h.w k t ht).2
    · intro x t ht
      refine ⟨(h.r x t ht).1, fun hc => ?_⟩
      simp only [upd]
      split
      · rfl
      · exact (h.r x t ht).2 hc
    · intro t
      simp only [upd]
      split
      · simp; omega
      · exact h.o t
    · intro t
      simp only [upd]
      split
      · simp
      · exact h.e t
    · intro hc
      rw [Bool.and_eq_true]
      refine ⟨h.c hc, List.all_eq_true.2 fun t ht => ?_⟩
      rw [(h.r _ t ht).2 hc]; rfl
  · split
    · rename_i h3 hk
      refine ⟨?_, ?_, ?_, ?_, h.s, h.c, ?_, lr⟩
      · intro k t ht
        obtain ⟨h1, h2⟩ := List.mem_filter.1 ht
        refine ⟨(h.w k t h1).1, ?_⟩
        have : t ≠ o.tx.toNat := by simpa using h2
        simp only [upd, if_neg this]
        exact (h.w k t h1).2
      · intro x t ht
        refine ⟨(h.r x t ht).1, fun hc => ?_⟩
        have h3 := (h.r x t ht).2 hc
        have : t ≠ o.tx.toNat := by rintro rfl; rw [h0] at h3; simp at h3
        simp only [upd, if_neg this]
        exact h3
      · intro t
        simp only [upd]
        split
        · simp; omega
        · exact h.o t
      · intro t
        simp only [upd]
        split
        · simp
        · exact h.e t
      · intro k
        exact Nat.le_trans (List.length_filter_le _ _) (lw k)
    · rename_i h3 h4
      have hs := KindsM.inv_see (o := o) h
      obtain ⟨e1, e2⟩ := KindsM.see_en st o
      have hp := KindsM.inv_put (o := o) hs (fun k => by rw [e2]; have := h.lw k; omega) (by omega) (by rw [e1]; exact h0)
      have eo : upd ov o.tx.toNat (decide (3 ≤ o.kind)) = ov := by
        funext t
        simp only [upd]
        split
        · rename_i e; subst e; rw [hv]; simp; omega
        · rfl
      rw [eo]
      exact hp
theorem KindsM.inv_run : ∀ (l : List OpM) (st : KSt) (ov : Nat → Bool) (n : Nat), KindsM.Inv st ov n → RunM.go l ov = 0 → ∃ ov', KindsM.Inv (l.foldl KindsM.step st) ov' (n + l.length)
  | [], st, ov, n, h, _ => ⟨ov, by simpa using h⟩
  | o :: l, st, ov, n, h, hg => by
    unfold RunM.go at hg
    split at hg
    · rename_i hb; exact absurd hg hb
    · rename_i hb
      split at hg
      · simp at hg
      · rename_i hv
        obtain ⟨ov', h'⟩ := KindsM.inv_run l _ _ _ (KindsM.inv_step h (Classical.byContradiction hb) (by simpa using hv)) hg
        exact ⟨ov', by rw [List.foldl_cons, List.length_cons]; rw [show n + (l.length + 1) = n + 1 + l.length by omega]; exact h'⟩
/-- HADZILACOS. -/
theorem KindsM.law {l : List OpM} (h : RunM.check l = 0) : ((KindsM.run l).sc = true → (KindsM.run l).cc = true) ∧ ((KindsM.run l).cc = true → (KindsM.run l).rc = true) := by
  unfold RunM.check at h
  split at h
  · simp at h
  · obtain ⟨ov', h'⟩ := KindsM.inv_run l _ _ _ KindsM.inv_start h
    exact ⟨h'.s, h'.c⟩
end Go.Proofs.YtnnkejolfhhmlaaGreat
