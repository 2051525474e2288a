/- Snapshots, in plain Lean: what snap.Play does. -/
import Derived.Test.YtgkclgmekbgjmaaRunM
namespace Go.Proofs.Ytgkclgmekbgjmaa
open Go.RowKit Go.Lib

structure VerM where
  by_ : Int
  at_ : Int
  deriving DecidableEq, Inhabited
/-- What a decision says. -/
structure DidM where
  ok : Bool
  from_ : Int
  deriving DecidableEq, Inhabited
structure SnSt where
  began : Nat → Bool
  fr : Nat → Int
  wr : Nat → List Int
  done : Int
  vs : Nat → List VerM
def SnapM.start : SnSt := ⟨fun _ => false, fun _ => 0, fun _ => [], 0, fun _ => []⟩
def SnapM.newest (l : List VerM) (f : Int) : Int := l.foldl (fun a v => if v.at_ ≤ f then v.by_ else a) (-1)
def SnapM.clash (st : SnSt) (x : Nat) : Bool := (st.wr x).any (fun it => (st.vs it.toNat).any (fun v => decide (st.fr x < v.at_)))
/-- The versions, when k has written these. -/
def SnapM.put (k t : Int) (vs : Nat → List VerM) (its : List Int) : Nat → List VerM := its.foldl (fun vs it => upd vs it.toNat (vs it.toNat ++ [⟨k, t⟩])) vs
def SnapM.commit (st : SnSt) (x : Nat) (k : Int) : SnSt := if SnapM.clash st x = true then st else { st with done := st.done + 1, vs := SnapM.put k (st.done + 1) st.vs (st.wr x) }
def SnapM.begin (st : SnSt) (x : Nat) : SnSt := if st.began x = true then st else { st with began := upd st.began x true, fr := upd st.fr x st.done, wr := upd st.wr x [] }
def SnapM.did (st : SnSt) (o : OpM) : DidM :=
  let s := SnapM.begin st o.tx.toNat
  if o.kind = 1 then ⟨true, if o.item ∈ s.wr o.tx.toNat then o.tx else SnapM.newest (s.vs o.item.toNat) (s.fr o.tx.toNat)⟩
  else if o.kind = 3 then ⟨!SnapM.clash s o.tx.toNat, -1⟩ else ⟨true, -1⟩
def SnapM.step (st : SnSt) (o : OpM) : SnSt :=
  let s := SnapM.begin st o.tx.toNat
  if o.kind = 2 then (if o.item ∈ s.wr o.tx.toNat then s else { s with wr := upd s.wr o.tx.toNat (s.wr o.tx.toNat ++ [o.item]) })
  else if o.kind = 3 then SnapM.commit s o.tx.toNat o.tx else s
def SnapM.run (l : List OpM) : SnSt := l.foldl SnapM.step SnapM.start
def SnapM.outs : SnSt → List OpM → List DidM
  | _, [] => []
  | st, o :: r => SnapM.did st o :: SnapM.outs (SnapM.step st o) r
/-- What Play tells. -/
def SnapM.play (l : List OpM) : List DidM := SnapM.outs SnapM.start l
theorem SnapM.outs_len : ∀ (l : List OpM) (st : SnSt), (SnapM.outs st l).length = l.length
  | [], _ => rfl
  | o :: r, st => by simp [SnapM.outs, SnapM.outs_len r]
theorem SnapM.outs_snoc : ∀ (l : List OpM) (st : SnSt) (o : OpM), SnapM.outs st (l ++ [o]) = SnapM.outs st l ++ [SnapM.did (l.foldl SnapM.step st) o]
  | [], _, _ => rfl
  | p :: r, st, o => by simp [SnapM.outs, SnapM.outs_snoc r]
theorem SnapM.run_snoc (l : List OpM) (o : OpM) : SnapM.run (l ++ [o]) = SnapM.step (SnapM.run l) o := by simp [SnapM.run]
theorem SnapM.play_snoc (l : List OpM) (o : OpM) : SnapM.play (l ++ [o]) = SnapM.play l ++ [SnapM.did (SnapM.run l) o] := SnapM.outs_snoc l _ o
theorem SnapM.play_len (l : List OpM) : (SnapM.play l).length = l.length := SnapM.outs_len l _

/-- The bounds behind k operations. -/
structure SnapM.Bnd (st : SnSt) (k : Nat) : Prop where
  w : ∀ x, (st.wr x).length ≤ k
  it : ∀ x, ∀ i ∈ st.wr x, 0 ≤ i ∧ i < 20
  d : 0 ≤ st.done ∧ st.done ≤ k
  v : ∀ i, (st.vs i).length ≤ k * k
theorem SnapM.put_len (k t : Int) : ∀ (its : List Int) (vs : Nat → List VerM) (i : Nat), (SnapM.put k t vs its i).length ≤ (vs i).length + its.length
  | [], _, _ => by simp [SnapM.put]
  | it :: r, vs, i => by
    have h := SnapM.put_len k t r (upd vs it.toNat (vs it.toNat ++ [⟨k, t⟩])) i
    simp only [SnapM.put, List.foldl_cons, List.length_cons] at h ⊢
    by_cases e : i = it.toNat
    · subst e
      rw [upd_same, List.length_append, List.length_singleton] at h
      omega
    · rw [upd_other _ _ e] at h
      omega
theorem SnapM.Bnd.begin {st : SnSt} {k : Nat} (h : SnapM.Bnd st k) (x : Nat) : SnapM.Bnd (SnapM.begin st x) k := by
  unfold SnapM.begin
  split
  · exact h
  · refine ⟨fun y => ?_, fun y i hi => ?_, h.d, h.v⟩
    · by_cases e : y = x
      · subst e; simp [upd]
      · simp only [upd, e, if_false]; exact h.w y
    · by_cases e : y = x
      · subst e; simp [upd] at hi
      · simp only [upd, e, if_false] at hi; exact h.it y i hi
theorem SnapM.Bnd.step {st : SnSt} {k : Nat} {o : OpM} (h0 : SnapM.Bnd st k) (hb : RunM.bad o = 0) : SnapM.Bnd (SnapM.step st o) (k + 1) := by
  have h := h0.begin o.tx.toNat
  obtain ⟨b1, b2, b3, b4, _⟩ := RunM.bad_zero hb
  have hk : k * k ≤ (k + 1) * (k + 1) := Nat.mul_le_mul (by omega) (by omega)
  have up : SnapM.Bnd (SnapM.begin st o.tx.toNat) (k + 1) := ⟨fun x => by have := h.w x; omega, h.it, ⟨h.d.1, by have := h.d.2; omega⟩, fun i => by have := h.v i; omega⟩
  unfold SnapM.step
  simp only
  split
  · split
    · exact up
    · refine ⟨fun x => ?_, fun x i hi => ?_, up.d, up.v⟩
      · simp only [upd]
        split
        · rw [List.length_append]; have := h.w o.tx.toNat; simp; omega
        · exact up.w x
      · simp only [upd] at hi
        split at hi
        · rcases List.mem_append.1 hi with h1 | h1
          · exact h.it _ i h1
          · simp at h1; omega
        · exact h.it x i hi
  · split
    · unfold SnapM.commit
      split
      · exact up
      · refine ⟨up.w, up.it, ⟨by have := h.d.1; simp only; omega, by have := h.d.2; simp only; omega⟩, fun i => ?_⟩
        have h1 := SnapM.put_len o.tx ((SnapM.begin st o.tx.toNat).done + 1) ((SnapM.begin st o.tx.toNat).wr o.tx.toNat) (SnapM.begin st o.tx.toNat).vs i
        have h2 := h.w o.tx.toNat
        have h3 := h.v i
        have h4 : (k + 1) * (k + 1) = k * k + k + k + 1 := by rw [Nat.add_mul, Nat.mul_add]; omega
        show (SnapM.put _ _ _ _ i).length ≤ _
        omega
    · exact up
end Go.Proofs.Ytgkclgmekbgjmaa
