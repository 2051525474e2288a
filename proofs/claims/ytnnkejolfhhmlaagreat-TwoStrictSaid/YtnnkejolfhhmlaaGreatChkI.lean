/- Right runs, said without a state. -/
import Derived.Test.YtnnkejolfhhmlaaGreatHeap
namespace Go.Proofs.YtnnkejolfhhmlaaGreat
section
open Go.RowKit Go.Lib

/-- An operation of a transaction. -/
structure OpM where
  tx : Int
  kind : Int
  item : Int
  deriving DecidableEq, Inhabited

def RunM.bad (o : OpM) : Int :=
  if o.tx < 0 ∨ 12 ≤ o.tx ∨ o.item < 0 ∨ 20 ≤ o.item then 1 else if o.kind = 1 ∨ o.kind = 2 then 0 else if (o.kind = 3 ∨ o.kind = 4) ∧ o.item = 0 then 0 else 4
def RunM.go : List OpM → (Nat → Bool) → Int
  | [], _ => 0
  | o :: l, ov => if RunM.bad o ≠ 0 then RunM.bad o else if ov o.tx.toNat = true then 4 else RunM.go l (upd ov o.tx.toNat (decide (3 ≤ o.kind)))
/-- What run.Check answers. -/
def RunM.check (l : List OpM) : Int := if 200 < l.length then 2 else RunM.go l (fun _ => false)

theorem RunM.bad_zero {o : OpM} (h : RunM.bad o = 0) : 0 ≤ o.tx ∧ o.tx < 12 ∧ 0 ≤ o.item ∧ o.item < 20 ∧ 1 ≤ o.kind ∧ o.kind ≤ 4 ∧ (3 ≤ o.kind → o.item = 0) := by
  unfold RunM.bad at h
  split at h
  · simp at h
  · split at h
    · omega
    · split at h
      · omega
      · simp at h

/-- The operations l stand where a slice of so many begins. -/
def OpsAt (w : World) (ao : Option Addr) (l : List OpM) : Prop :=
  l = [] ∨ ∃ b off, ao = some ⟨b, off, none⟩ ∧ b < w.heap.size ∧
    ∀ k (h : k < l.length), w.cell? ⟨b, off + k * 3, none⟩ = some (.int .i64 l[k].tx) ∧ w.cell? ⟨b, off + k * 3 + 1, none⟩ = some (.int .i64 l[k].kind) ∧ w.cell? ⟨b, off + k * 3 + 2, none⟩ = some (.int .i64 l[k].item)
theorem OpsAt.below {B : Nat} {w w' : World} {ao : Option Addr} {l : List OpM} (h : OpsAt w ao l) (hb : Below B w w') (hB : w.heap.size ≤ B) : OpsAt w' ao l := by
  rcases h with h | ⟨b, off, h1, h2, h3⟩
  · exact Or.inl h
  · exact Or.inr ⟨b, off, h1, Nat.lt_of_lt_of_le h2 hb.size, fun k hk => ⟨(hb.cell (p := ⟨b, off + k * 3, none⟩) (Nat.lt_of_lt_of_le h2 hB)).trans (h3 k hk).1,
      (hb.cell (p := ⟨b, off + k * 3 + 1, none⟩) (Nat.lt_of_lt_of_le h2 hB)).trans (h3 k hk).2.1, (hb.cell (p := ⟨b, off + k * 3 + 2, none⟩) (Nat.lt_of_lt_of_le h2 hB)).trans (h3 k hk).2.2⟩⟩
/-- The number k of operations is none that no machine bears; all numbers are ints. -/
def RunM.Fits (l : List OpM) : Prop := l.length ≤ 9000000000000 ∧ ∀ o ∈ l, -9223372036854775808 ≤ o.tx ∧ o.tx ≤ 9223372036854775807 ∧ -9223372036854775808 ≤ o.kind ∧ o.kind ≤ 9223372036854775807 ∧ -9223372036854775808 ≤ o.item ∧ o.item ≤ 9223372036854775807
end
section
/-- What transaction t does. -/
def RunM.of (l : List OpM) (t : Nat) : List OpM := l.filter fun o => o.tx == (t : Int)
/-- Do two operations hang on which comes first? -/
def RunM.clash (a b : OpM) : Bool := !(a.tx == b.tx) && decide (a.kind < 3) && decide (b.kind < 3) && (a.item == b.item) && ((a.kind == 2) || (b.kind == 2))
end
section
open Go.RowKit Go.Lib
namespace RunM
theorem go_cons (o : OpM) (l : List OpM) (ov : Nat → Bool) : go (o :: l) ov = 0 ↔ bad o = 0 ∧ ov o.tx.toNat = false ∧ go l (upd ov o.tx.toNat (decide (3 ≤ o.kind))) = 0 := by
  rw [go]
  split
  · rename_i h; simp [h]
  · rename_i h
    have h0 : bad o = 0 := Classical.not_not.1 h
    split
    · rename_i h2; simp [h2]
    · rename_i h2; simp [h0, h2]
/-- Right runs, said without a state: each operation is right, and nothing stands behind a transaction's end. -/
theorem go_iff : ∀ (l : List OpM) (ov : Nat → Bool), go l ov = 0 ↔ (∀ o ∈ l, bad o = 0 ∧ ov o.tx.toNat = false) ∧ l.Pairwise fun x y => x.tx = y.tx → x.kind < 3
  | [], ov => by simp [go]
  | o :: l, ov => by
    rw [go_cons, go_iff l]
    constructor
    · rintro ⟨h1, h2, h3, h4⟩
      have b1 := bad_zero h1
      refine ⟨fun x hx => ?_, List.pairwise_cons.2 ⟨fun y hy e => ?_, h4⟩⟩
      · rcases List.mem_cons.1 hx with rfl | hx
        · exact ⟨h1, h2⟩
        · obtain ⟨h5, h6⟩ := h3 x hx
          refine ⟨h5, ?_⟩
          unfold upd at h6
          split at h6
          · rename_i e; rw [e]; exact h2
          · exact h6
      · obtain ⟨h5, h6⟩ := h3 y hy
        rw [← e, upd_same] at h6
        have := of_decide_eq_false h6
        omega
    · rintro ⟨h1, h2⟩
      obtain ⟨h3, h4⟩ := List.pairwise_cons.1 h2
      obtain ⟨h5, h6⟩ := h1 o (by simp)
      refine ⟨h5, h6, fun x hx => ?_, h4⟩
      obtain ⟨h7, h8⟩ := h1 x (by simp [hx])
      refine ⟨h7, ?_⟩
      unfold upd
      split
      · rename_i e
        have b1 := bad_zero h5
        have b2 := bad_zero h7
        have := h3 x hx (by omega)
        exact decide_eq_false (by omega)
      · exact h8
theorem check_iff (l : List OpM) : check l = 0 ↔ l.length ≤ 200 ∧ (∀ o ∈ l, bad o = 0) ∧ l.Pairwise fun x y => x.tx = y.tx → x.kind < 3 := by
  unfold check
  split
  · simp; omega
  · rw [go_iff]; simp; omega
theorem check_sub {l m : List OpM} (h : check l = 0) (hs : m.Sublist l) : check m = 0 := by
  rw [check_iff] at *
  exact ⟨Nat.le_trans hs.length_le h.1, fun o ho => h.2.1 o (hs.subset ho), h.2.2.sublist hs⟩

end RunM
end
end Go.Proofs.YtnnkejolfhhmlaaGreat
