/- SkewReads, in plain Lean: up to the first Commit that snap lets and skew does not, both tell the same. -/
import Derived.Test.YtgkclgmekbgjmaaSnapM
import Derived.Test.YtgkclgmekbgjmaaStampM
namespace Go.Proofs.Ytgkclgmekbgjmaa
section
open Go.RowKit Go.Lib

/-- rows: of x its reads, of 12 + x its writes, of 24 + i who wrote item i. -/
structure SkSt where
  began : Nat → Bool
  dn : Nat → Bool
  fr : Nat → Int
  at_ : Nat → Int
  rows : Nat → List Int
  done : Int
def SkM.start : SkSt := ⟨fun _ => false, fun _ => false, fun _ => 0, fun _ => 0, fun _ => [], 0⟩
def SkM.begin (st : SkSt) (x : Nat) : SkSt := if st.began x = true then st else ⟨upd st.began x true, upd st.dn x false, upd st.fr x st.done, upd st.at_ x 0, upd (upd st.rows x []) (12 + x) [], st.done⟩
def SkM.beside (st : SkSt) (a b : Nat) : Bool := (!st.dn a || decide (st.fr b < st.at_ a)) && (!st.dn b || decide (st.fr a < st.at_ b))
def SkM.meets (st : SkSt) (x y : Nat) : Bool := SkM.beside st x y && (st.rows (12 + x)).any (fun it => decide (it ∈ st.rows (12 + y)))
def SkM.wwAt (st : SkSt) (x y : Nat) : Bool := (decide (y ≠ x) && st.dn y) && SkM.meets st x y
/-- Would a commit of x lose a write? -/
def SkM.ww (st : SkSt) (x : Nat) : Bool := (List.range 12).any (SkM.wwAt st x)
def SkM.seen (st : SkSt) (f : Int) (l : List Int) : Int := l.foldl (fun a w => if st.at_ w.toNat ≤ f then w else a) (-1)
def SkM.put (t : Int) (rows : Nat → List Int) (its : List Int) : Nat → List Int := its.foldl (fun r it => upd r (24 + it.toNat) (r (24 + it.toNat) ++ [t])) rows
def SkM.commit (st : SkSt) (x : Nat) (t : Int) : SkSt := { st with done := st.done + 1, dn := upd st.dn x true, at_ := upd st.at_ x (st.done + 1), rows := SkM.put t st.rows (st.rows (12 + x)) }
def SkM.readS (st : SkSt) (x : Nat) (item : Int) : SkSt := if item ∈ st.rows (12 + x) then st else if item ∈ st.rows x then st else { st with rows := upd st.rows x (st.rows x ++ [item]) }
def SkM.readV (st : SkSt) (x : Nat) (t item : Int) : Int := if item ∈ st.rows (12 + x) then t else SkM.seen st (st.fr x) (st.rows (24 + item.toNat))
def SkM.writeS (st : SkSt) (x : Nat) (item : Int) : SkSt := if item ∈ st.rows (12 + x) then st else { st with rows := upd st.rows (12 + x) (st.rows (12 + x) ++ [item]) }
/-- c: is the Commit refused? -/
def SkM.did (c : Bool) (st : SkSt) (o : OpM) : DidM :=
  if o.kind = 1 then ⟨true, SkM.readV (SkM.begin st o.tx.toNat) o.tx.toNat o.tx o.item⟩ else if o.kind = 3 then ⟨!c, -1⟩ else ⟨true, -1⟩
def SkM.step (c : Bool) (st : SkSt) (o : OpM) : SkSt :=
  if o.kind = 1 then SkM.readS (SkM.begin st o.tx.toNat) o.tx.toNat o.item
  else if o.kind = 2 then SkM.writeS (SkM.begin st o.tx.toNat) o.tx.toNat o.item
  else if o.kind = 3 then (if c = true then SkM.begin st o.tx.toNat else SkM.commit (SkM.begin st o.tx.toNat) o.tx.toNat o.tx) else SkM.begin st o.tx.toNat
inductive SkRel : List OpM → SkSt → List DidM → Prop
  | nil : SkRel [] SkM.start []
  | snoc {l : List OpM} {st : SkSt} {ds : List DidM} (o : OpM) (c : Bool) (h : SkRel l st ds) (hc : SkM.ww (SkM.begin st o.tx.toNat) o.tx.toNat = true → c = true) (hn : (∀ y, y < 12 → y ≠ o.tx.toNat → (SkM.begin st o.tx.toNat).dn y = false) → c = false) : SkRel (l ++ [o]) (SkM.step c st o) (ds ++ [SkM.did c st o])
theorem SkRel.len {l : List OpM} {st : SkSt} {ds : List DidM} (h : SkRel l st ds) : ds.length = l.length := by
  induction h with
  | nil => rfl
  | snoc o c _ _ _ ih => simp [ih]

/-- The bounds behind k operations. -/
structure SkM.Bnd (st : SkSt) (k : Nat) : Prop where
  rw_ : ∀ r, r < 24 → (st.rows r).length ≤ k
  it : ∀ r, r < 24 → ∀ i ∈ st.rows r, 0 ≤ i ∧ i < 20
  v : ∀ r, 24 ≤ r → (st.rows r).length ≤ k * k
  t : ∀ r, 24 ≤ r → ∀ i ∈ st.rows r, 0 ≤ i ∧ i < 12
  d : 0 ≤ st.done ∧ st.done ≤ k
theorem SkM.put_len (t : Int) : ∀ (its : List Int) (rows : Nat → List Int) (i : Nat), (SkM.put t rows its i).length ≤ (rows i).length + its.length
  | [], _, _ => by simp [SkM.put]
  | it :: r, rows, i => by
    have h := SkM.put_len t r (upd rows (24 + it.toNat) (rows (24 + it.toNat) ++ [t])) i
    simp only [SkM.put, List.foldl_cons, List.length_cons] at h ⊢
    by_cases e : i = 24 + it.toNat
    · subst e
      rw [upd_same, List.length_append, List.length_singleton] at h
      omega
    · rw [upd_other _ _ e] at h
      omega
theorem SkM.put_low (t : Int) : ∀ (its : List Int) (rows : Nat → List Int) (i : Nat), i < 24 → SkM.put t rows its i = rows i
  | [], _, _, _ => rfl
  | it :: r, rows, i, hi => by
    have h := SkM.put_low t r (upd rows (24 + it.toNat) (rows (24 + it.toNat) ++ [t])) i hi
    simp only [SkM.put, List.foldl_cons] at h ⊢
    rw [h, upd_other _ _ (by omega)]
theorem SkM.put_mem (t : Int) : ∀ (its : List Int) (rows : Nat → List Int) (i : Nat) (x : Int), x ∈ SkM.put t rows its i → x ∈ rows i ∨ (x = t ∧ ∃ it ∈ its, i = 24 + it.toNat)
  | [], _, _, _, h => Or.inl h
  | it :: r, rows, i, x, h => by
    rcases SkM.put_mem t r (upd rows (24 + it.toNat) (rows (24 + it.toNat) ++ [t])) i x h with h1 | ⟨h1, y, h2, h3⟩
    · by_cases e : i = 24 + it.toNat
      · subst e
        rw [upd_same] at h1
        rcases List.mem_append.1 h1 with h1 | h1
        · exact Or.inl h1
        · exact Or.inr ⟨by simpa using h1, it, by simp, rfl⟩
      · rw [upd_other _ _ e] at h1
        exact Or.inl h1
    · exact Or.inr ⟨h1, y, by simp [h2], h3⟩
theorem SkM.put_snoc (t : Int) (its : List Int) (it : Int) (rows : Nat → List Int) : SkM.put t rows (its ++ [it]) = upd (SkM.put t rows its) (24 + it.toNat) (SkM.put t rows its (24 + it.toNat) ++ [t]) := by
  unfold SkM.put
  rw [List.foldl_append]; rfl
theorem SkM.Bnd.begin {st : SkSt} {k : Nat} (h : SkM.Bnd st k) {x : Nat} (hx : x < 12) : SkM.Bnd (SkM.begin st x) k := by
  unfold SkM.begin
  split
  · exact h
  · refine ⟨fun r hr => ?_, fun r hr i hi => ?_, fun r hr => ?_, fun r hr i hi => ?_, h.d⟩
    · simp only [upd]; split
      · simp
      · split
        · simp
        · exact h.rw_ r hr
    · simp only [upd] at hi
      split at hi
      · simp at hi
      · split at hi
        · simp at hi
        · exact h.it r hr i hi
    · simp only [upd]
      rw [if_neg (by omega), if_neg (by omega)]
      exact h.v r hr
    · simp only [upd] at hi
      rw [if_neg (by omega), if_neg (by omega)] at hi
      exact h.t r hr i hi
theorem SkM.Bnd.more {st : SkSt} {k : Nat} (h : SkM.Bnd st k) : SkM.Bnd st (k + 1) := by
  have hk : k * k ≤ (k + 1) * (k + 1) := Nat.mul_le_mul (by omega) (by omega)
  exact ⟨fun r hr => by have := h.rw_ r hr; omega, h.it, fun r hr => by have := h.v r hr; omega, h.t, ⟨h.d.1, by have := h.d.2; omega⟩⟩
theorem SkM.Bnd.put {st : SkSt} {k : Nat} (h : SkM.Bnd st k) {r : Nat} (hr : r < 24) {i : Int} (hi : 0 ≤ i ∧ i < 20) : SkM.Bnd { st with rows := upd st.rows r (st.rows r ++ [i]) } (k + 1) := by
  have h1 := h.more
  refine ⟨fun q hq => ?_, fun q hq j hj => ?_, fun q hq => ?_, fun q hq j hj => ?_, h1.d⟩
  · simp only [upd]; split
    · rw [List.length_append, List.length_singleton]; have := h.rw_ r hr; omega
    · exact h1.rw_ q hq
  · simp only [upd] at hj
    split at hj
    · rcases List.mem_append.1 hj with h2 | h2
      · exact h.it r hr j h2
      · simp at h2; subst h2; exact hi
    · exact h.it q hq j hj
  · simp only [upd]; rw [if_neg (by omega)]; exact h1.v q hq
  · simp only [upd] at hj; rw [if_neg (by omega)] at hj; exact h.t q hq j hj
theorem SkM.Bnd.commit {st : SkSt} {k : Nat} (h : SkM.Bnd st k) {x : Nat} (hx : x < 12) {t : Int} (ht : 0 ≤ t ∧ t < 12) : SkM.Bnd (SkM.commit st x t) (k + 1) := by
  have h1 := h.more
  have h4 : (k + 1) * (k + 1) = k * k + k + k + 1 := by rw [Nat.add_mul, Nat.mul_add]; omega
  refine ⟨fun q hq => ?_, fun q hq j hj => ?_, fun q hq => ?_, fun q hq j hj => ?_, ⟨by have := h.d.1; simp only [SkM.commit]; omega, by have := h.d.2; simp only [SkM.commit]; omega⟩⟩
  · show (SkM.put _ _ _ q).length ≤ _
    rw [SkM.put_low _ _ _ _ hq]; exact h1.rw_ q hq
  · change j ∈ SkM.put _ _ _ q at hj
    rw [SkM.put_low _ _ _ _ hq] at hj; exact h.it q hq j hj
  · show (SkM.put _ _ _ q).length ≤ _
    have a := SkM.put_len t (st.rows (12 + x)) st.rows q
    have b := h.rw_ (12 + x) (by omega)
    have c := h.v q hq
    omega
  · change j ∈ SkM.put _ _ _ q at hj
    rcases SkM.put_mem _ _ _ _ _ hj with h2 | ⟨h2, _⟩
    · exact h.t q hq j h2
    · rw [h2]; exact ht
theorem SkM.Bnd.step {st : SkSt} {k : Nat} {o : OpM} (h0 : SkM.Bnd st k) (hb : RunM.bad o = 0) (c : Bool) : SkM.Bnd (SkM.step c st o) (k + 1) := by
  obtain ⟨b1, b2, b3, b4, _⟩ := RunM.bad_zero hb
  have hx : o.tx.toNat < 12 := by omega
  have h := h0.begin hx
  unfold SkM.step
  split
  · unfold SkM.readS
    split
    · exact h.more
    · split
      · exact h.more
      · exact h.put (by omega) ⟨b3, b4⟩
  · split
    · unfold SkM.writeS
      split
      · exact h.more
      · exact h.put (by omega) ⟨b3, b4⟩
    · split
      · split
        · exact h.more
        · exact h.commit hx ⟨b1, b2⟩
      · exact h.more
theorem SkRel.bnd {l : List OpM} {st : SkSt} {ds : List DidM} (h : SkRel l st ds) : (∀ o ∈ l, RunM.bad o = 0) → SkM.Bnd st l.length := by
  induction h with
  | nil => exact fun _ => ⟨fun _ _ => by simp [SkM.start], fun _ _ _ h => by simp [SkM.start] at h, fun _ _ => by simp [SkM.start], fun _ _ _ h => by simp [SkM.start] at h, by simp [SkM.start]⟩
  | snoc o c _ _ _ ih =>
    intro hb
    rw [List.length_append]
    exact (ih (fun x hx => hb x (by simp [hx]))).step (hb o (by simp)) c
end
section
open Go.RowKit Go.Lib

theorem RunM.go_left' : ∀ (l m : List OpM) (ov : Nat → Bool), RunM.go (l ++ m) ov = 0 → RunM.go l ov = 0
  | [], _, _, _ => rfl
  | o :: l, m, ov, h => by
    rw [List.cons_append, RunM.go] at h
    rw [RunM.go]
    split at h
    · rename_i h1; exact absurd h h1
    · rename_i h1
      rw [if_neg h1]
      split at h
      · simp at h
      · rename_i h2
        rw [if_neg h2]
        exact RunM.go_left' l m _ h
theorem RunM.go_mid : ∀ (p : List OpM) (o : OpM) (ov : Nat → Bool), RunM.go (p ++ [o]) ov = 0 → ov o.tx.toNat = false ∧ ∀ a ∈ p, a.tx.toNat = o.tx.toNat → a.kind < 3
  | [], o, ov, h => by
    rw [List.nil_append, RunM.go] at h
    split at h
    · rename_i h1; exact absurd h h1
    · split at h
      · simp at h
      · rename_i h2
        exact ⟨by simpa using h2, by simp⟩
  | a :: p, o, ov, h => by
    rw [List.cons_append, RunM.go] at h
    split at h
    · rename_i h1; exact absurd h h1
    · split at h
      · simp at h
      · rename_i h2
        obtain ⟨h3, h4⟩ := RunM.go_mid p o _ h
        by_cases e : o.tx.toNat = a.tx.toNat
        · rw [e, upd_same] at h3
          refine ⟨by rw [e]; simpa using h2, fun b hb hbt => ?_⟩
          rcases List.mem_cons.1 hb with rfl | hb
          · simpa using h3
          · exact h4 b hb hbt
        · rw [upd_other _ _ e] at h3
          refine ⟨h3, fun b hb hbt => ?_⟩
          rcases List.mem_cons.1 hb with rfl | hb
          · exact absurd hbt.symm e
          · exact h4 b hb hbt

structure SkM.Sync (S : SnSt) (K : SkSt) : Prop where
  b : S.began = K.began
  f : S.fr = K.fr
  w : ∀ x, x < 12 → S.wr x = K.rows (12 + x)
  d : S.done = K.done
  v : ∀ i, i < 20 → S.vs i = (K.rows (24 + i)).map (fun t => ⟨t, K.at_ t.toNat⟩)
  m : ∀ i, i < 20 → ∀ t ∈ K.rows (24 + i), 0 ≤ t ∧ t < 12 ∧ K.dn t.toNat = true ∧ (i : Int) ∈ K.rows (12 + t.toNat) ∧ K.began t.toNat = true
  it : ∀ x, x < 12 → ∀ i ∈ K.rows (12 + x), 0 ≤ i ∧ i < 20

theorem SkM.Sync.begin {S : SnSt} {K : SkSt} (h : SkM.Sync S K) {x : Nat} (hx : x < 12) : SkM.Sync (SnapM.begin S x) (SkM.begin K x) := by
  unfold SnapM.begin SkM.begin
  rw [h.b]
  by_cases e : K.began x = true
  · rw [if_pos e, if_pos e]; exact h
  · rw [if_neg e, if_neg e]
    have hne : ∀ i, i < 20 → ∀ t ∈ K.rows (24 + i), t.toNat ≠ x := fun i hi t ht e2 => e (by rw [← e2]; exact (h.m i hi t ht).2.2.2.2)
    have hr : ∀ i, upd (upd K.rows x []) (12 + x) [] (24 + i) = K.rows (24 + i) := fun i => by
      rw [upd_other _ _ (by omega), upd_other _ _ (by omega)]
    refine ⟨rfl, by simp only [h.f, h.d], fun y hy => ?_, h.d, fun i hi => ?_, fun i hi t ht => ?_, fun y hy i hi => ?_⟩
    · show upd S.wr x [] y = upd (upd K.rows x []) (12 + x) [] (12 + y)
      by_cases e2 : y = x
      · subst e2; rw [upd_same, upd_same]
      · rw [upd_other _ _ e2, upd_other _ _ (by omega), upd_other _ _ (by omega)]; exact h.w y hy
    · show S.vs i = (upd (upd K.rows x []) (12 + x) [] (24 + i)).map (fun t => (⟨t, upd K.at_ x 0 t.toNat⟩ : VerM))
      rw [hr, h.v i hi]
      refine List.map_congr_left fun t ht => ?_
      rw [upd_other _ _ (hne i hi t ht)]
    · change t ∈ upd (upd K.rows x []) (12 + x) [] (24 + i) at ht
      rw [hr] at ht
      obtain ⟨a, b, c, d, e3⟩ := h.m i hi t ht
      have h1 := hne i hi t ht
      refine ⟨a, b, ?_, ?_, ?_⟩
      · show upd K.dn x false t.toNat = true
        rw [upd_other _ _ h1]; exact c
      · show (i : Int) ∈ upd (upd K.rows x []) (12 + x) [] (12 + t.toNat)
        rw [upd_other _ _ (by omega), upd_other _ _ (by omega)]; exact d
      · show upd K.began x true t.toNat = true
        rw [upd_other _ _ h1]; exact e3
    · change i ∈ upd (upd K.rows x []) (12 + x) [] (12 + y) at hi
      by_cases e2 : y = x
      · subst e2; rw [upd_same] at hi; simp at hi
      · rw [upd_other _ _ (by omega), upd_other _ _ (by omega)] at hi; exact h.it y hy i hi
theorem SkM.seen_map (K : SkSt) (f : Int) (l : List Int) : SnapM.newest (l.map (fun t => ⟨t, K.at_ t.toNat⟩)) f = SkM.seen K f l := by
  unfold SnapM.newest SkM.seen
  rw [List.foldl_map]
/-- What snap refuses skew refuses. -/
theorem SkM.clash_ww {S : SnSt} {K : SkSt} (h : SkM.Sync S K) {x : Nat} (hx : x < 12) (hd : K.dn x = false) (hc : SnapM.clash S x = true) : SkM.ww K x = true := by
  unfold SnapM.clash at hc
  obtain ⟨it, hit, hc⟩ := List.any_eq_true.1 hc
  obtain ⟨v, hv, hc⟩ := List.any_eq_true.1 hc
  have hlt := of_decide_eq_true hc
  rw [h.w x hx] at hit
  have hi := h.it x hx it hit
  have hi2 : it.toNat < 20 := by omega
  rw [h.v _ hi2] at hv
  obtain ⟨t, ht, rfl⟩ := List.mem_map.1 hv
  obtain ⟨a, b, c, d, _⟩ := h.m _ hi2 t ht
  have hne : t.toNat ≠ x := fun e => by rw [e, hd] at c; cases c
  rw [h.f] at hlt
  dsimp only at hlt
  unfold SkM.ww
  refine List.any_eq_true.2 ⟨t.toNat, List.mem_range.2 (by omega), ?_⟩
  have e1 : SkM.beside K x t.toNat = true := by
    unfold SkM.beside
    rw [hd, decide_eq_true hlt]; simp
  have e2 : ((K.rows (12 + x)).any fun it => decide (it ∈ K.rows (12 + t.toNat))) = true := List.any_eq_true.2 ⟨it, hit, decide_eq_true (by
    rw [show ((it.toNat : Nat) : Int) = it by omega] at d; exact d)⟩
  unfold SkM.wwAt SkM.meets
  rw [decide_eq_true hne, c, e1, e2]; rfl
theorem SkM.put_ws (t n : Int) (g : Int → Int) (hg : g t = n) : ∀ (its : List Int) (vs : Nat → List VerM) (rows : Nat → List Int), (∀ i ∈ its, 0 ≤ i ∧ i < 20) → (∀ i, i < 20 → vs i = (rows (24 + i)).map (fun t => ⟨t, g t⟩)) →
    ∀ i, i < 20 → SnapM.put t n vs its i = (SkM.put t rows its (24 + i)).map (fun t => ⟨t, g t⟩)
  | [], _, _, _, h, i, hi => h i hi
  | it :: r, vs, rows, hr, h, i, hi => by
    refine SkM.put_ws t n g hg r (upd vs it.toNat (vs it.toNat ++ [⟨t, n⟩])) (upd rows (24 + it.toNat) (rows (24 + it.toNat) ++ [t])) (fun j hj => hr j (by simp [hj])) (fun j hj => ?_) i hi
    by_cases e : j = it.toNat
    · subst e
      rw [upd_same, upd_same, List.map_append, h _ hj, List.map_cons, List.map_nil, hg]
    · rw [upd_other _ _ e, upd_other _ _ (by omega)]; exact h j hj
theorem SkM.Sync.commit {S : SnSt} {K : SkSt} (h : SkM.Sync S K) {x : Nat} (hx : x < 12) (hd : K.dn x = false) (hb : K.began x = true) (hc : ¬ SnapM.clash S x = true) : SkM.Sync (SnapM.commit S x (x : Int)) (SkM.commit K x (x : Int)) := by
  unfold SnapM.commit SkM.commit
  rw [if_neg hc]
  have hne : ∀ i, i < 20 → ∀ t ∈ K.rows (24 + i), t.toNat ≠ x := fun i hi t ht e => by
    have := (h.m i hi t ht).2.2.1
    rw [e, hd] at this; cases this
  refine ⟨h.b, h.f, fun y hy => ?_, by simp only [h.d], fun i hi => ?_, fun i hi t ht => ?_, fun y hy i hi => ?_⟩
  · show S.wr y = SkM.put _ _ _ _
    rw [SkM.put_low _ _ _ _ (by omega)]; exact h.w y hy
  · rw [h.w x hx]
    refine SkM.put_ws (x : Int) (S.done + 1) (fun t => upd K.at_ x (K.done + 1) t.toNat) (by
      show upd K.at_ x (K.done + 1) (x : Int).toNat = _
      rw [show (x : Int).toNat = x by omega, upd_same, h.d]) _ _ _ (h.it x hx) (fun j hj => ?_) i hi
    rw [h.v j hj]
    refine List.map_congr_left fun t ht => ?_
    rw [upd_other _ _ (hne j hj t ht)]
  · change t ∈ SkM.put (x : Int) K.rows (K.rows (12 + x)) (24 + i) at ht
    rcases SkM.put_mem _ _ _ _ _ ht with h1 | ⟨rfl, it, h2, h3⟩
    · obtain ⟨a, b, c, d, e⟩ := h.m i hi t h1
      refine ⟨a, b, ?_, ?_, e⟩
      · show upd K.dn x true t.toNat = true
        rw [upd_other _ _ (hne i hi t h1)]; exact c
      · show (i : Int) ∈ SkM.put _ _ _ (12 + t.toNat)
        rw [SkM.put_low _ _ _ _ (by omega)]; exact d
    · have hi2 := h.it x hx it h2
      refine ⟨by omega, by omega, ?_, ?_, ?_⟩
      · show upd K.dn x true (x : Int).toNat = true
        rw [show (x : Int).toNat = x by omega, upd_same]
      · show (i : Int) ∈ SkM.put _ _ _ (12 + (x : Int).toNat)
        rw [SkM.put_low _ _ _ _ (by omega), show (x : Int).toNat = x by omega, show (i : Int) = it by omega]; exact h2
      · show K.began (x : Int).toNat = true
        rw [show (x : Int).toNat = x by omega]; exact hb
  · change i ∈ SkM.put (x : Int) K.rows (K.rows (12 + x)) (12 + y) at hi
    rw [SkM.put_low _ _ _ _ (by omega)] at hi
    exact h.it y hy i hi
theorem SkM.begin_began (K : SkSt) (x : Nat) : (SkM.begin K x).began x = true := by
  unfold SkM.begin
  split
  · assumption
  · exact upd_same _ _ _
theorem SkM.begin_dn (K : SkSt) (x y : Nat) (h : (SkM.begin K x).dn y = true) : K.dn y = true := by
  unfold SkM.begin at h
  split at h
  · exact h
  · change upd K.dn x false y = true at h
    by_cases e : y = x
    · subst e; rw [upd_same] at h; cases h
    · rwa [upd_other _ _ e] at h

/-- The first difference is a Commit that snap lets and skew does not. -/
def SkM.Diff (l : List OpM) (a b : List DidM) : Prop := ∃ i, ∃ (h : i < l.length) (ha : i < a.length) (hb : i < b.length), (∀ j (ha : j < a.length) (hb : j < b.length), j < i → a[j] = b[j]) ∧ a[i] ≠ b[i] ∧ l[i].kind = 3 ∧ a[i].ok = true ∧ b[i].ok = false
theorem SkM.law {l : List OpM} {K : SkSt} {ds : List DidM} (h : SkRel l K ds) : RunM.go l (fun _ => false) = 0 → (∀ o ∈ l, RunM.bad o = 0) →
    (SkM.Sync (SnapM.run l) K ∧ (∀ y, K.dn y = true → ∃ a ∈ l, a.tx.toNat = y ∧ a.kind = 3) ∧ SnapM.play l = ds) ∨ SkM.Diff l (SnapM.play l) ds := by
  induction h with
  | nil => exact fun _ _ => Or.inl ⟨⟨rfl, rfl, fun _ _ => rfl, rfl, fun _ _ => rfl, fun _ _ _ h => by simp [SkM.start] at h, fun _ _ _ h => by simp [SkM.start] at h⟩, fun _ h => by simp [SkM.start] at h, rfl⟩
  | @snoc l K ds o c hrel hc _ ih =>
    intro hgo hbad
    have hlen := hrel.len
    have hpl := SnapM.play_len l
    obtain ⟨b1, b2, b3, b4, b5, b6, b7⟩ := RunM.bad_zero (hbad o (by simp))
    have hx : o.tx.toNat < 12 := by omega
    have hxo : ((o.tx.toNat : Nat) : Int) = o.tx := by omega
    rcases ih (RunM.go_left' _ _ _ hgo) (fun a ha => hbad a (by simp [ha])) with ⟨hS, hdn, hds⟩ | ⟨i, hi, ha, hb, hbef, hne, hk, hok, hnok⟩
    · have hmid := (RunM.go_mid l o _ hgo).2
      have hd : (SkM.begin K o.tx.toNat).dn o.tx.toNat = false := by
        cases hh : (SkM.begin K o.tx.toNat).dn o.tx.toNat with
        | false => rfl
        | true =>
          obtain ⟨a, ha, h1, h2⟩ := hdn _ (SkM.begin_dn _ _ _ hh)
          have := hmid a ha h1
          omega
      have hS1 := hS.begin hx
      have hbg := SkM.begin_began K o.tx.toNat
      have hdn1 : ∀ y, (SkM.begin K o.tx.toNat).dn y = true → ∃ a ∈ l ++ [o], a.tx.toNat = y ∧ a.kind = 3 := fun y hy => by
        obtain ⟨a, ha, h⟩ := hdn y (SkM.begin_dn _ _ _ hy)
        exact ⟨a, by simp [ha], h⟩
      rw [SnapM.run_snoc, SnapM.play_snoc, hds]
      unfold SnapM.did SnapM.step SkM.did SkM.step
      simp only
      generalize SnapM.begin (SnapM.run l) o.tx.toNat = S at *
      generalize SkM.begin K o.tx.toNat = T at *
      by_cases k1 : o.kind = 1
      · have k2 : ¬ o.kind = 2 := by omega
        have k3 : ¬ o.kind = 3 := by omega
        simp only [if_pos k1, if_neg k2, if_neg k3]
        left
        refine ⟨?_, ?_, ?_⟩
        · unfold SkM.readS
          split
          · exact hS1
          · split
            · exact hS1
            · refine ⟨hS1.b, hS1.f, fun y hy => ?_, hS1.d, fun i hi => ?_, fun i hi t ht => ?_, fun y hy i hi => ?_⟩
              · show _ = upd T.rows o.tx.toNat _ (12 + y)
                rw [upd_other _ _ (by omega)]; exact hS1.w y hy
              · show _ = (upd T.rows o.tx.toNat _ (24 + i)).map _
                rw [upd_other _ _ (by omega)]; exact hS1.v i hi
              · change t ∈ upd T.rows o.tx.toNat _ (24 + i) at ht
                rw [upd_other _ _ (by omega)] at ht
                obtain ⟨a, b, c, d, e⟩ := hS1.m i hi t ht
                refine ⟨a, b, c, ?_, e⟩
                show (i : Int) ∈ upd T.rows o.tx.toNat _ (12 + t.toNat)
                rw [upd_other _ _ (by omega)]; exact d
              · change i ∈ upd T.rows o.tx.toNat _ (12 + y) at hi
                rw [upd_other _ _ (by omega)] at hi
                exact hS1.it y hy i hi
        · unfold SkM.readS
          split
          · exact hdn1
          · split
            · exact hdn1
            · exact hdn1
        · unfold SkM.readV
          rw [hS1.w _ hx, hS1.f, hS1.v _ (by omega), SkM.seen_map]
      · rw [if_neg k1, if_neg k1, if_neg k1]
        by_cases k2 : o.kind = 2
        · have k3 : ¬ o.kind = 3 := by omega
          simp only [if_pos k2, if_neg k3]
          left
          refine ⟨?_, ?_, trivial⟩
          · unfold SkM.writeS
            rw [hS1.w _ hx]
            split
            · exact hS1
            · refine ⟨hS1.b, hS1.f, fun y hy => ?_, hS1.d, fun i hi => ?_, fun i hi t ht => ?_, fun y hy i hi => ?_⟩
              · show upd S.wr o.tx.toNat _ y = upd T.rows (12 + o.tx.toNat) _ (12 + y)
                by_cases e : y = o.tx.toNat
                · subst e; rw [upd_same, upd_same]
                · rw [upd_other _ _ e, upd_other _ _ (by omega)]; exact hS1.w y hy
              · show _ = (upd T.rows (12 + o.tx.toNat) _ (24 + i)).map _
                rw [upd_other _ _ (by omega)]; exact hS1.v i hi
              · change t ∈ upd T.rows (12 + o.tx.toNat) _ (24 + i) at ht
                rw [upd_other _ _ (by omega)] at ht
                obtain ⟨a, b, c, d, e⟩ := hS1.m i hi t ht
                refine ⟨a, b, c, ?_, e⟩
                show (i : Int) ∈ upd T.rows (12 + o.tx.toNat) _ (12 + t.toNat)
                by_cases e2 : t.toNat = o.tx.toNat
                · rw [e2, upd_same]; rw [e2] at d; exact List.mem_append_left _ d
                · rw [upd_other _ _ (by omega)]; exact d
              · change i ∈ upd T.rows (12 + o.tx.toNat) _ (12 + y) at hi
                by_cases e : y = o.tx.toNat
                · subst e
                  rw [upd_same] at hi
                  rcases List.mem_append.1 hi with h1 | h1
                  · exact hS1.it _ hy i h1
                  · simp at h1; subst h1; exact ⟨b3, b4⟩
                · rw [upd_other _ _ (by omega)] at hi; exact hS1.it y hy i hi
          · unfold SkM.writeS
            split
            · exact hdn1
            · exact hdn1
        · rw [if_neg k2, if_neg k2]
          by_cases k3 : o.kind = 3
          · rw [if_pos k3, if_pos k3, if_pos k3, if_pos k3]
            cases c with
            | false =>
              left
              have hcl : ¬ SnapM.clash S o.tx.toNat = true := fun h => by
                have := hc (SkM.clash_ww hS1 hx hd h)
                cases this
              refine ⟨?_, ?_, ?_⟩
              · have := hS1.commit hx hd hbg hcl
                rw [hxo] at this
                rw [if_neg (by simp)]
                exact this
              · rw [if_neg (by simp)]
                intro y hy
                change upd T.dn o.tx.toNat true y = true at hy
                by_cases e : y = o.tx.toNat
                · exact ⟨o, by simp, e.symm, k3⟩
                · rw [upd_other _ _ e] at hy; exact hdn1 y hy
              · have : SnapM.clash S o.tx.toNat = false := by simpa using hcl
                rw [this]
            | true =>
              rw [if_pos rfl]
              by_cases hcl : SnapM.clash S o.tx.toNat = true
              · left
                refine ⟨?_, hdn1, ?_⟩
                · unfold SnapM.commit; rw [if_pos hcl]; exact hS1
                · rw [hcl]
              · right
                have hcl' : SnapM.clash S o.tx.toNat = false := by simpa using hcl
                rw [hcl']
                have key : ∀ (x : DidM) (h : l.length < (ds ++ [x]).length), (ds ++ [x])[l.length] = x := fun x h => by
                  rw [List.getElem_append_right (by omega)]; simp
                refine ⟨l.length, by simp, by simp [hlen], by simp [hlen], fun j h1 h2 hj => ?_, ?_, ?_, ?_, ?_⟩
                · rw [List.getElem_append_left (by omega), List.getElem_append_left (by omega)]
                · rw [key, key]
                  simp
                · rw [List.getElem_append_right (by omega)]; simpa using k3
                · rw [key]; rfl
                · rw [key]; rfl
          · rw [if_neg k3, if_neg k3, if_neg k3, if_neg k3]
            exact Or.inl ⟨hS1, hdn1, rfl⟩
    · right
      rw [SnapM.play_snoc]
      refine ⟨i, by rw [List.length_append]; omega, by rw [List.length_append]; omega, by rw [List.length_append]; omega, fun j h1 h2 hj => ?_, ?_, ?_, ?_, ?_⟩
      · rw [List.getElem_append_left (by omega), List.getElem_append_left (by omega)]; exact hbef j _ _ hj
      · rw [List.getElem_append_left (by omega), List.getElem_append_left (by omega)]; exact hne
      · rw [List.getElem_append_left (by omega)]; exact hk
      · rw [List.getElem_append_left (by omega)]; exact hok
      · rw [List.getElem_append_left (by omega)]; exact hnok
/-- Where both tell otherwise first. -/
theorem SkM.first {l : List OpM} {K : SkSt} {ds : List DidM} (h : SkRel l K ds) (hgo : RunM.go l (fun _ => false) = 0) (hb : ∀ o ∈ l, RunM.bad o = 0) (i : Nat) (h0 : i < l.length) (h1 : i < (SnapM.play l).length) (h2 : i < ds.length)
    (hbef : ∀ j (h1 : j < (SnapM.play l).length) (h2 : j < ds.length), j < i → (SnapM.play l)[j] = ds[j]) (hne : (SnapM.play l)[i] ≠ ds[i]) : l[i].kind = 3 ∧ (SnapM.play l)[i].ok = true ∧ ds[i].ok = false := by
  rcases SkM.law h hgo hb with ⟨_, _, h3⟩ | ⟨k, hk, ha, hb, hbk, hnk, h4⟩
  · subst h3; exact absurd rfl hne
  · have : k = i := by
      rcases Nat.lt_trichotomy k i with h5 | h5 | h5
      · exact absurd (hbef k ha hb h5) hnk
      · exact h5
      · exact absurd (hbk i h1 h2 h5) hne
    subst this
    exact h4
end
end Go.Proofs.Ytgkclgmekbgjmaa
