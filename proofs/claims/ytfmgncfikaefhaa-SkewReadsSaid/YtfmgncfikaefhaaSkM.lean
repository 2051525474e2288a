/- Serial snapshots, in plain Lean: what skew.Play does, as far as SkewReads asks: a Commit may be refused, and must be if a write would be lost. -/
import Derived.Test.YtfmgncfikaefhaaSnapM
import Derived.Test.YtfmgncfikaefhaaStampM
namespace Go.Proofs.Ytfmgncfikaefhaa
open Go.RowKit Go.Lib

/-- rows: of x its reads, of 12 + x its writes, of 24 + i who wrote item i. -/
structure SkSt where
  began : Nat → Bool
  dn : Nat → Bool
  fr : Nat → Int
  at_ : Nat → Int
  rows : Nat → List Int
  done : Int
def SkM.start : SkSt := ⟨fun _ => false, fun _ => false, fun _ => 0, fun _ => 0, fun _ => [], 0⟩
def SkM.begin (st : SkSt) (x : Nat) : SkSt := if st.began x = true then st else ⟨upd st.began x true, upd st.dn x false, upd st.fr x st.done, upd st.at_ x 0, upd (upd st.rows x []) (12 + x) [], st.done⟩
def SkM.beside (st : SkSt) (a b : Nat) : Bool := (!st.dn a || decide (st.fr b < st.at_ a)) && (!st.dn b || decide (st.fr a < st.at_ b))
def SkM.meets (st : SkSt) (x y : Nat) : Bool := SkM.beside st x y && (st.rows (12 + x)).any (fun it => decide (it ∈ st.rows (12 + y)))
def SkM.wwAt (st : SkSt) (x y : Nat) : Bool := (decide (y ≠ x) && st.dn y) && SkM.meets st x y
/-- Would a commit of x lose a write? -/
def SkM.ww (st : SkSt) (x : Nat) : Bool := (List.range 12).any (SkM.wwAt st x)
def SkM.seen (st : SkSt) (f : Int) (l : List Int) : Int := l.foldl (fun a w => if st.at_ w.toNat ≤ f then w else a) (-1)
def SkM.put (t : Int) (rows : Nat → List Int) (its : List Int) : Nat → List Int := its.foldl (fun r it => upd r (24 + it.toNat) (r (24 + it.toNat) ++ [t])) rows
def SkM.commit (st : SkSt) (x : Nat) (t : Int) : SkSt := { st with done := st.done + 1, dn := upd st.dn x true, at_ := upd st.at_ x (st.done + 1), rows := SkM.put t st.rows (st.rows (12 + x)) }
def SkM.readS (st : SkSt) (x : Nat) (item : Int) : SkSt := if item ∈ st.rows (12 + x) then st else if item ∈ st.rows x then st else { st with rows := upd st.rows x (st.rows x ++ [item]) }
def SkM.readV (st : SkSt) (x : Nat) (t item : Int) : Int := if item ∈ st.rows (12 + x) then t else SkM.seen st (st.fr x) (st.rows (24 + item.toNat))
def SkM.writeS (st : SkSt) (x : Nat) (item : Int) : SkSt := if item ∈ st.rows (12 + x) then st else { st with rows := upd st.rows (12 + x) (st.rows (12 + x) ++ [item]) }
/-- c: is the Commit refused? -/
def SkM.did (c : Bool) (st : SkSt) (o : OpM) : DidM :=
  if o.kind = 1 then ⟨true, SkM.readV (SkM.begin st o.tx.toNat) o.tx.toNat o.tx o.item⟩ else if o.kind = 3 then ⟨!c, -1⟩ else ⟨true, -1⟩
def SkM.step (c : Bool) (st : SkSt) (o : OpM) : SkSt :=
  if o.kind = 1 then SkM.readS (SkM.begin st o.tx.toNat) o.tx.toNat o.item
  else if o.kind = 2 then SkM.writeS (SkM.begin st o.tx.toNat) o.tx.toNat o.item
  else if o.kind = 3 then (if c = true then SkM.begin st o.tx.toNat else SkM.commit (SkM.begin st o.tx.toNat) o.tx.toNat o.tx) else SkM.begin st o.tx.toNat
inductive SkRel : List OpM → SkSt → List DidM → Prop
  | nil : SkRel [] SkM.start []
  | snoc {l : List OpM} {st : SkSt} {ds : List DidM} (o : OpM) (c : Bool) (h : SkRel l st ds) (hc : SkM.ww (SkM.begin st o.tx.toNat) o.tx.toNat = true → c = true) (hn : (∀ y, y < 12 → y ≠ o.tx.toNat → (SkM.begin st o.tx.toNat).dn y = false) → c = false) : SkRel (l ++ [o]) (SkM.step c st o) (ds ++ [SkM.did c st o])
theorem SkRel.len {l : List OpM} {st : SkSt} {ds : List DidM} (h : SkRel l st ds) : ds.length = l.length := by
  induction h with
  | nil => rfl
  | snoc o c _ _ _ ih => simp [ih]

/-- The bounds behind k operations. -/
structure SkM.Bnd (st : SkSt) (k : Nat) : Prop where
  rw_ : ∀ r, r < 24 → (st.rows r).length ≤ k
  it : ∀ r, r < 24 → ∀ i ∈ st.rows r, 0 ≤ i ∧ i < 20
  v : ∀ r, 24 ≤ r → (st.rows r).length ≤ k * k
  t : ∀ r, 24 ≤ r → ∀ i ∈ st.rows r, 0 ≤ i ∧ i < 12
  d : 0 ≤ st.done ∧ st.done ≤ k
theorem SkM.put_len (t : Int) : ∀ (its : List Int) (rows : Nat → List Int) (i : Nat), (SkM.put t rows its i).length ≤ (rows i).length + its.length
  | [], _, _ => by simp [SkM.put]
  | it :: r, rows, i => by
    have h := SkM.put_len t r (upd rows (24 + it.toNat) (rows (24 + it.toNat) ++ [t])) i
    simp only [SkM.put, List.foldl_cons, List.length_cons] at h ⊢
    by_cases e : i = 24 + it.toNat
    · subst e
      rw [upd_same, List.length_append, List.length_singleton] at h
      omega
    · rw [upd_other _ _ e] at h
      omega
theorem SkM.put_low (t : Int) : ∀ (its : List Int) (rows : Nat → List Int) (i : Nat), i < 24 → SkM.put t rows its i = rows i
  | [], _, _, _ => rfl
  | it :: r, rows, i, hi => by
    have h := SkM.put_low t r (upd rows (24 + it.toNat) (rows (24 + it.toNat) ++ [t])) i hi
    simp only [SkM.put, List.foldl_cons] at h ⊢
    rw [h, upd_other _ _ (by omega)]
theorem SkM.put_mem (t : Int) : ∀ (its : List Int) (rows : Nat → List Int) (i : Nat) (x : Int), x ∈ SkM.put t rows its i → x ∈ rows i ∨ (x = t ∧ ∃ it ∈ its, i = 24 + it.toNat)
  | [], _, _, _, h => Or.inl h
  | it :: r, rows, i, x, h => by
    rcases SkM.put_mem t r (upd rows (24 + it.toNat) (rows (24 + it.toNat) ++ [t])) i x h with h1 | ⟨h1, y, h2, h3⟩
    · by_cases e : i = 24 + it.toNat
      · subst e
        rw [upd_same] at h1
        rcases List.mem_append.1 h1 with h1 | h1
        · exact Or.inl h1
        · exact Or.inr ⟨by simpa using h1, it, by simp, rfl⟩
      · rw [upd_other _ _ e] at h1
        exact Or.inl h1
    · exact Or.inr ⟨h1, y, by simp [h2], h3⟩
theorem SkM.put_snoc (t : Int) (its : List Int) (it : Int) (rows : Nat → List Int) : SkM.put t rows (its ++ [it]) = upd (SkM.put t rows its) (24 + it.toNat) (SkM.put t rows its (24 + it.toNat) ++ [t]) := by
  unfold SkM.put
  rw [List.foldl_append]; rfl
theorem SkM.Bnd.begin {st : SkSt} {k : Nat} (h : SkM.Bnd st k) {x : Nat} (hx : x < 12) : SkM.Bnd (SkM.begin st x) k := by
  unfold SkM.begin
  split
  · exact h
  · refine ⟨fun r hr => ?_, fun r hr i hi => ?_, fun r hr => ?_, fun r hr i hi => ?_, h.d⟩
    · simp only [upd]; split
      · simp
      · split
        · simp
        · exact h.rw_ r hr
    · simp only [upd] at hi
      split at hi
      · simp at hi
      · split at hi
        · simp at hi
        · exact h.it r hr i hi
    · simp only [upd]
      rw [if_neg (by omega), if_neg (by omega)]
      exact h.v r hr
    · simp only [upd] at hi
      rw [if_neg (by omega), if_neg (by omega)] at hi
      exact h.t r hr i hi
theorem SkM.Bnd.more {st : SkSt} {k : Nat} (h : SkM.Bnd st k) : SkM.Bnd st (k + 1) := by
  have hk : k * k ≤ (k + 1) * (k + 1) := Nat.mul_le_mul (by omega) (by omega)
  exact ⟨fun r hr => by have := h.rw_ r hr; omega, h.it, fun r hr => by have := h.v r hr; omega, h.t, ⟨h.d.1, by have := h.d.2; omega⟩⟩
theorem SkM.Bnd.put {st : SkSt} {k : Nat} (h : SkM.Bnd st k) {r : Nat} (hr : r < 24) {i : Int} (hi : 0 ≤ i ∧ i < 20) : SkM.Bnd { st with rows := upd st.rows r (st.rows r ++ [i]) } (k + 1) := by
  have h1 := h.more
  refine ⟨fun q hq => ?_, fun q hq j hj => ?_, fun q hq => ?_, fun q hq j hj => ?_, h1.d⟩
  · simp only [upd]; split
    · rw [List.length_append, List.length_singleton]; have := h.rw_ r hr; omega
    · exact h1.rw_ q hq
  · simp only [upd] at hj
    split at hj
    · rcases List.mem_append.1 hj with h2 | h2
      · exact h.it r hr j h2
      · simp at h2; subst h2; exact hi
    · exact h.it q hq j hj
  · simp only [upd]; rw [if_neg (by omega)]; exact h1.v q hq
  · simp only [upd] at hj; rw [if_neg (by omega)] at hj; exact h.t q hq j hj
theorem SkM.Bnd.commit {st : SkSt} {k : Nat} (h : SkM.Bnd st k) {x : Nat} (hx : x < 12) {t : Int} (ht : 0 ≤ t ∧ t < 12) : SkM.Bnd (SkM.commit st x t) (k + 1) := by
  have h1 := h.more
  have h4 : (k + 1) * (k + 1) = k * k + k + k + 1 := by rw [Nat.add_mul, Nat.mul_add]; omega
  refine ⟨fun q hq => ?_, fun q hq j hj => ?_, fun q hq => ?_, fun q hq j hj => ?_, ⟨by have := h.d.1; simp only [SkM.commit]; omega, by have := h.d.2; simp only [SkM.commit]; omega⟩⟩
  · show (SkM.put _ _ _ q).length ≤ _
    rw [SkM.put_low _ _ _ _ hq]; exact h1.rw_ q hq
  · change j ∈ SkM.put _ _ _ q at hj
    rw [SkM.put_low _ _ _ _ hq] at hj; exact h.it q hq j hj
  · show (SkM.put _ _ _ q).length ≤ _
    have a := SkM.put_len t (st.rows (12 + x)) st.rows q
    have b := h.rw_ (12 + x) (by omega)
    have c := h.v q hq
    omega
  · change j ∈ SkM.put _ _ _ q at hj
    rcases SkM.put_mem _ _ _ _ _ hj with h2 | ⟨h2, _⟩
    · exact h.t q hq j h2
    · rw [h2]; exact ht
theorem SkM.Bnd.step {st : SkSt} {k : Nat} {o : OpM} (h0 : SkM.Bnd st k) (hb : RunM.bad o = 0) (c : Bool) : SkM.Bnd (SkM.step c st o) (k + 1) := by
  obtain ⟨b1, b2, b3, b4, _⟩ := RunM.bad_zero hb
  have hx : o.tx.toNat < 12 := by omega
  have h := h0.begin hx
  unfold SkM.step
  split
  · unfold SkM.readS
    split
    · exact h.more
    · split
      · exact h.more
      · exact h.put (by omega) ⟨b3, b4⟩
  · split
    · unfold SkM.writeS
      split
      · exact h.more
      · exact h.put (by omega) ⟨b3, b4⟩
    · split
      · split
        · exact h.more
        · exact h.commit hx ⟨b1, b2⟩
      · exact h.more
theorem SkRel.bnd {l : List OpM} {st : SkSt} {ds : List DidM} (h : SkRel l st ds) : (∀ o ∈ l, RunM.bad o = 0) → SkM.Bnd st l.length := by
  induction h with
  | nil => exact fun _ => ⟨fun _ _ => by simp [SkM.start], fun _ _ _ h => by simp [SkM.start] at h, fun _ _ => by simp [SkM.start], fun _ _ _ h => by simp [SkM.start] at h, by simp [SkM.start]⟩
  | snoc o c _ _ _ ih =>
    intro hb
    rw [List.length_append]
    exact (ih (fun x hx => hb x (by simp [hx]))).step (hb o (by simp)) c
end Go.Proofs.Ytfmgncfikaefhaa
