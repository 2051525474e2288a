/- SnapSees, in plain Lean. -/
import Derived.Test.YtlmibgjflgkalaaSnapM
namespace Go.Proofs.Ytlmibgjflgkalaa
open Go.RowKit Go.Lib

theorem RunM.go_over : ∀ (l : List OpM) (ov : Nat → Bool) (t : Nat), RunM.go l ov = 0 → ov t = true → ∀ p ∈ l, p.tx.toNat ≠ t
  | [], _, _, _, _ => by simp
  | o :: r, ov, t, h, ht => by
    unfold RunM.go at h
    split at h
    · rename_i hb; exact absurd h hb
    · split at h
      · simp at h
      · rename_i hv
        have hne : o.tx.toNat ≠ t := fun e => hv (by rw [e]; exact ht)
        intro p hp
        rcases List.mem_cons.1 hp with rfl | hp
        · exact hne
        · exact RunM.go_over r _ t h (by rw [upd_other _ _ (Ne.symm hne)]; exact ht) p hp
theorem RunM.go_ended : ∀ (a : List OpM) (o : OpM) (b : List OpM) (ov : Nat → Bool), RunM.go (a ++ o :: b) ov = 0 → 3 ≤ o.kind → ∀ p ∈ b, p.tx.toNat ≠ o.tx.toNat
  | [], o, b, ov, h, hk => by
    rw [List.nil_append] at h
    unfold RunM.go at h
    split at h
    · rename_i hb; exact absurd h hb
    · split at h
      · simp at h
      · exact RunM.go_over b _ _ h (by rw [upd_same]; exact decide_eq_true hk)
  | q :: a, o, b, ov, h, hk => by
    rw [List.cons_append] at h
    unfold RunM.go at h
    split at h
    · rename_i hb; exact absurd h hb
    · split at h
      · simp at h
      · exact RunM.go_ended a o b _ h hk
theorem RunM.ended {l : List OpM} (h : RunM.go l (fun _ => false) = 0) {k i : Nat} (hki : k < i) (hi : i < l.length) (hk : 3 ≤ l[k].kind) : l[i].tx.toNat ≠ l[k].tx.toNat := by
  have e : l = l.take k ++ l[k] :: l.drop (k + 1) := by rw [List.getElem_cons_drop]; exact (List.take_append_drop k l).symm
  rw [e] at h
  refine RunM.go_ended _ _ _ _ h hk l[i] ?_
  rw [List.mem_iff_getElem]
  exact ⟨i - (k + 1), by rw [List.length_drop]; omega, by rw [List.getElem_drop]; congr 1; omega⟩

theorem SnapM.outs_at : ∀ (l : List OpM) (st : SnSt) (i : Nat) (h : i < l.length), (SnapM.outs st l)[i]'(by rw [SnapM.outs_len]; exact h) = SnapM.did ((l.take i).foldl SnapM.step st) l[i]
  | [], _, i, h => by simp at h
  | o :: r, st, 0, h => rfl
  | o :: r, st, i + 1, h => by
    have := SnapM.outs_at r (SnapM.step st o) i (by simpa using h)
    simpa [SnapM.outs] using this
/-- What is told of operation k. -/
def SnapM.tell (l : List OpM) (k : Nat) (h : k < l.length) : DidM := SnapM.did (SnapM.run (l.take k)) l[k]
theorem SnapM.play_at (l : List OpM) (i : Nat) (h : i < l.length) : (SnapM.play l)[i]'(by rw [SnapM.play_len]; exact h) = SnapM.tell l i h := SnapM.outs_at l _ i h

theorem SnapM.newest_mem (l : List VerM) (f : Int) : SnapM.newest l f = -1 ∨ ∃ v ∈ l, v.by_ = SnapM.newest l f := by
  induction l using snoc_ind with
  | nil => exact Or.inl rfl
  | snoc l a ih =>
    have e : SnapM.newest (l ++ [a]) f = if a.at_ ≤ f then a.by_ else SnapM.newest l f := by simp [SnapM.newest]
    rw [e]
    split
    · exact Or.inr ⟨a, by simp, rfl⟩
    · rcases ih with h | ⟨v, h1, h2⟩
      · exact Or.inl h
      · exact Or.inr ⟨v, by simp [h1], h2⟩
theorem SnapM.newest_more (l : List VerM) (f : Int) (v : VerM) (h : f < v.at_) : SnapM.newest (l ++ [v]) f = SnapM.newest l f := by
  have e : SnapM.newest (l ++ [v]) f = if v.at_ ≤ f then v.by_ else SnapM.newest l f := by simp [SnapM.newest]
  rw [e, if_neg (by omega)]
theorem SnapM.newest_put (k t f : Int) (h : f < t) : ∀ (its : List Int) (vs : Nat → List VerM) (i : Nat), SnapM.newest (SnapM.put k t vs its i) f = SnapM.newest (vs i) f
  | [], _, _ => rfl
  | it :: r, vs, i => by
    have h1 := SnapM.newest_put k t f h r (upd vs it.toNat (vs it.toNat ++ [⟨k, t⟩])) i
    simp only [SnapM.put, List.foldl_cons] at h1 ⊢
    rw [h1]
    by_cases e : i = it.toNat
    · subst e; rw [upd_same, SnapM.newest_more _ _ _ h]
    · rw [upd_other _ _ e]
theorem SnapM.put_mem (k t : Int) : ∀ (its : List Int) (vs : Nat → List VerM) (i : Nat) (v : VerM), v ∈ SnapM.put k t vs its i → v ∈ vs i ∨ v = ⟨k, t⟩
  | [], _, _, _, h => Or.inl h
  | it :: r, vs, i, v, h => by
    rcases SnapM.put_mem k t r (upd vs it.toNat (vs it.toNat ++ [(⟨k, t⟩ : VerM)])) i v (by simpa only [SnapM.put, List.foldl_cons] using h) with h1 | h1
    · by_cases e : i = it.toNat
      · subst e; rw [upd_same] at h1; simpa using h1
      · rw [upd_other _ _ e] at h1; exact Or.inl h1
    · exact Or.inr h1

structure SnapM.Inv (l : List OpM) (i : Nat) (st : SnSt) : Prop where
  b : ∀ x, st.began x = false → st.wr x = [] ∧ ∀ k (h : k < l.length), k < i → l[k].tx.toNat ≠ x
  w : ∀ x it, it ∈ st.wr x ↔ ∃ k, ∃ h : k < l.length, k < i ∧ l[k].tx.toNat = x ∧ l[k].kind = 2 ∧ l[k].item = it
  v : ∀ it v, v ∈ st.vs it → v.at_ ≤ st.done ∧ ∃ k, ∃ h : k < l.length, k < i ∧ l[k].kind = 3 ∧ l[k].tx = v.by_ ∧ (SnapM.tell l k h).ok = true
  f : ∀ x, st.fr x ≤ st.done
  r : ∀ k (h : k < l.length), k < i → l[k].kind = 1 → l[k].item ∉ st.wr l[k].tx.toNat → (SnapM.tell l k h).from_ = SnapM.newest (st.vs l[k].item.toNat) (st.fr l[k].tx.toNat)
theorem SnapM.Inv.start (l : List OpM) : SnapM.Inv l 0 SnapM.start := by
  refine ⟨fun _ _ => ⟨rfl, fun k _ h => by omega⟩, fun x it => ?_, fun it v h => by simp [SnapM.start] at h, fun _ => by simp [SnapM.start], fun k _ h => by omega⟩
  constructor
  · intro h; simp [SnapM.start] at h
  · rintro ⟨k, _, h, _⟩; omega
/-- What begins turns little. -/
theorem SnapM.Inv.begin {l : List OpM} {i : Nat} {st : SnSt} (h : SnapM.Inv l i st) (x : Nat) :
    (SnapM.begin st x).wr = st.wr ∧ (SnapM.begin st x).vs = st.vs ∧ (SnapM.begin st x).done = st.done ∧ (∀ y, (SnapM.begin st x).fr y ≤ st.done) ∧ (∀ y, (SnapM.begin st x).began y = false → st.began y = false ∧ y ≠ x) ∧ (∀ y, st.began y = true → (SnapM.begin st x).fr y = st.fr y) := by
  unfold SnapM.begin
  split
  · rename_i hb
    exact ⟨rfl, rfl, rfl, h.f, fun y hy => ⟨hy, fun e => by rw [e, hb] at hy; simp at hy⟩, fun _ _ => rfl⟩
  · rename_i hb
    have hb : st.began x = false := by simpa using hb
    refine ⟨?_, rfl, rfl, fun y => ?_, fun y hy => ?_, fun y hy => ?_⟩
    · funext y
      simp only [upd]
      split
      · rename_i e; rw [e, (h.b x hb).1]
      · rfl
    · simp only [upd]
      split
      · exact Int.le_refl _
      · exact h.f y
    · simp only [upd] at hy
      split at hy
      · simp at hy
      · rename_i e; exact ⟨hy, e⟩
    · simp only [upd]
      rw [if_neg (by rintro rfl; rw [hb] at hy; simp at hy)]

theorem SnapM.Inv.step {l : List OpM} {i : Nat} (h : SnapM.Inv l i (SnapM.run (l.take i))) (hi : i < l.length) (hb : RunM.bad l[i] = 0) : SnapM.Inv l (i + 1) (SnapM.run (l.take (i + 1))) := by
  have er : SnapM.run (l.take (i + 1)) = SnapM.step (SnapM.run (l.take i)) l[i] := by rw [List.take_succ_eq_append_getElem hi, SnapM.run_snoc]
  rw [er]
  obtain ⟨b1, b2, b3, b4, b5, b6, _⟩ := RunM.bad_zero hb
  have htell : SnapM.tell l i hi = SnapM.did (SnapM.run (l.take i)) l[i] := rfl
  generalize SnapM.run (l.take i) = st at *
  obtain ⟨e1, e2, e3, e4, e5, e6⟩ := h.begin l[i].tx.toNat
  have split : ∀ k, k < i + 1 ↔ k < i ∨ k = i := fun k => by omega
  -- a state that keeps writes, but for what this operation adds
  have hw2 : ∀ x it, it ∈ (SnapM.step st l[i]).wr x ↔ ∃ k, ∃ h : k < l.length, k < i + 1 ∧ l[k].tx.toNat = x ∧ l[k].kind = 2 ∧ l[k].item = it := by
    intro x it
    have hkeep : (SnapM.step st l[i]).wr x = if l[i].kind = 2 ∧ l[i].item ∉ st.wr l[i].tx.toNat ∧ x = l[i].tx.toNat then st.wr x ++ [l[i].item] else st.wr x := by
      unfold SnapM.step SnapM.commit
      simp only [e1]
      by_cases k2 : l[i].kind = 2
      · rw [if_pos k2]
        by_cases hm : l[i].item ∈ st.wr l[i].tx.toNat
        · rw [if_pos hm, if_neg (by simp [hm]), e1]
        · rw [if_neg hm]
          simp only [upd]
          by_cases hx : x = l[i].tx.toNat
          · rw [if_pos hx, if_pos ⟨k2, hm, hx⟩, hx]
          · rw [if_neg hx, if_neg (by simp [hx])]
      · rw [if_neg k2, if_neg (show ¬ (l[i].kind = 2 ∧ l[i].item ∉ st.wr l[i].tx.toNat ∧ x = l[i].tx.toNat) from fun h => k2 h.1)]
        repeat' split
        all_goals first
          | rfl
          | rw [e1]
    rw [hkeep]
    constructor
    · intro hm
      split at hm
      · rename_i hc
        rcases List.mem_append.1 hm with hm | hm
        · obtain ⟨k, hk, h1, h2⟩ := (h.w x it).1 hm
          exact ⟨k, hk, by omega, h2⟩
        · simp at hm
          exact ⟨i, hi, by omega, hc.2.2.symm, hc.1, hm.symm⟩
      · obtain ⟨k, hk, h1, h2⟩ := (h.w x it).1 hm
        exact ⟨k, hk, by omega, h2⟩
    · rintro ⟨k, hk, h1, h2, h3, h4⟩
      rcases (split k).1 h1 with h1 | rfl
      · have := (h.w x it).2 ⟨k, hk, h1, h2, h3, h4⟩
        split
        · exact List.mem_append_left _ this
        · exact this
      · by_cases hm : l[k].item ∈ st.wr l[k].tx.toNat
        · rw [if_neg (by simp [hm]), ← h4, ← h2]; exact hm
        · rw [if_pos ⟨h3, hm, h2.symm⟩, ← h4]; simp
  have hbeg : (SnapM.step st l[i]).began = (SnapM.begin st l[i].tx.toNat).began ∧ (SnapM.step st l[i]).fr = (SnapM.begin st l[i].tx.toNat).fr := by
    unfold SnapM.step SnapM.commit
    simp only
    repeat' split
    all_goals exact ⟨rfl, rfl⟩
  have hdone : st.done ≤ (SnapM.step st l[i]).done := by
    unfold SnapM.step SnapM.commit
    simp only
    repeat' split
    all_goals try simp only [e3]
    all_goals omega
  have hnew : ∀ (it : Nat) (f : Int), f ≤ st.done → SnapM.newest ((SnapM.step st l[i]).vs it) f = SnapM.newest (st.vs it) f := by
    intro it f hf
    unfold SnapM.step SnapM.commit
    simp only
    repeat' split
    all_goals first
      | (simp only [e2, e3]; exact SnapM.newest_put _ _ _ (by omega) _ _ _)
      | (rw [e2])
  refine ⟨fun x hx => ?_, hw2, fun it v hv => ?_, fun x => ?_, fun k hk hki hk1 hnw => ?_⟩
  · rw [hbeg.1] at hx
    obtain ⟨h1, h2⟩ := e5 x hx
    have hno : ∀ k (hk : k < l.length), k < i + 1 → l[k].tx.toNat ≠ x := fun k hk hki => by
      rcases (split k).1 hki with h3 | rfl
      · exact (h.b x h1).2 k hk h3
      · exact fun e => h2 e.symm
    refine ⟨?_, hno⟩
    apply List.eq_nil_iff_forall_not_mem.2
    intro it hm
    obtain ⟨k, hk, h3, h4, _⟩ := (hw2 x it).1 hm
    exact hno k hk h3 h4
  · have old : v ∈ st.vs it → v.at_ ≤ (SnapM.step st l[i]).done ∧ ∃ k, ∃ h : k < l.length, k < i + 1 ∧ l[k].kind = 3 ∧ l[k].tx = v.by_ ∧ (SnapM.tell l k h).ok = true := fun hv => by
      obtain ⟨h1, k, hk, h2, h3⟩ := h.v it v hv
      exact ⟨by omega, k, hk, by omega, h3⟩
    by_cases k3 : l[i].kind = 3 ∧ SnapM.clash (SnapM.begin st l[i].tx.toNat) l[i].tx.toNat = false
    · have es : SnapM.step st l[i] = { SnapM.begin st l[i].tx.toNat with done := st.done + 1, vs := SnapM.put l[i].tx (st.done + 1) st.vs (st.wr l[i].tx.toNat) } := by
        unfold SnapM.step SnapM.commit
        simp only
        rw [if_neg (by omega), if_pos k3.1, if_neg (by rw [k3.2]; simp), e1, e2, e3]
      rw [es] at hv
      rcases SnapM.put_mem _ _ _ _ _ _ hv with h1 | rfl
      · exact old h1
      · refine ⟨by rw [es]; exact Int.le_refl _, i, hi, by omega, k3.1, rfl, ?_⟩
        rw [htell]
        unfold SnapM.did
        simp only
        rw [if_neg (by omega), if_pos k3.1, k3.2]; rfl
    · have es : (SnapM.step st l[i]).vs = st.vs := by
        unfold SnapM.step SnapM.commit
        simp only
        repeat' split
        all_goals first
          | exact e2
          | (exfalso; apply k3; constructor
             · assumption
             · simp_all)
      rw [es] at hv
      exact old hv
  · rw [hbeg.2]
    exact Int.le_trans (e4 x) hdone
  · have hf : (SnapM.begin st l[i].tx.toNat).fr l[k].tx.toNat ≤ st.done := e4 _
    rw [hbeg.2, hnew _ _ hf]
    rcases (split k).1 hki with h3 | rfl
    · have hnw' : l[k].item ∉ st.wr l[k].tx.toNat := by
        intro hm
        apply hnw
        rw [hw2]
        obtain ⟨j, hj, h4, h5⟩ := (h.w _ _).1 hm
        exact ⟨j, hj, by omega, h5⟩
      have hbg : st.began l[k].tx.toNat = true := by
        cases hbb : st.began l[k].tx.toNat with
        | true => rfl
        | false => exact absurd rfl ((h.b _ hbb).2 k hk h3)
      rw [e6 _ hbg]
      exact h.r k hk h3 hk1 hnw'
    · have hnw' : l[k].item ∉ st.wr l[k].tx.toNat := by
        intro hm
        apply hnw
        rw [hw2]
        obtain ⟨j, hj, h4, h5⟩ := (h.w _ _).1 hm
        exact ⟨j, hj, by omega, h5⟩
      rw [htell]
      unfold SnapM.did
      simp only
      rw [if_pos hk1, e1, if_neg hnw', e2]

theorem SnapM.inv {l : List OpM} (h : ∀ o ∈ l, RunM.bad o = 0) : ∀ i, i ≤ l.length → SnapM.Inv l i (SnapM.run (l.take i))
  | 0, _ => SnapM.Inv.start l
  | i + 1, hi => (SnapM.inv h i (by omega)).step (by omega) (h _ (List.getElem_mem _))

/-- BERENSON, BERNSTEIN, GRAY, MELTON, O'NEIL, O'NEIL: what a Read tells. -/
theorem SnapM.sees {l : List OpM} (hg : RunM.go l (fun _ => false) = 0) (hb : ∀ o ∈ l, RunM.bad o = 0) {i : Nat} (hi : i < l.length) (hk : l[i].kind = 1) :
    (∀ k (hki : k < i), l[k] = l[i] → (⟨l[i].tx, 2, l[i].item⟩ : OpM) ∉ l.take i → (SnapM.tell l k (by omega)).from_ = (SnapM.tell l i hi).from_) ∧
    ((SnapM.tell l i hi).from_ = l[i].tx → (⟨l[i].tx, 2, l[i].item⟩ : OpM) ∈ l.take i) ∧
    ((SnapM.tell l i hi).from_ ≠ l[i].tx → (SnapM.tell l i hi).from_ ≠ -1 → ∃ k, ∃ h : k < l.length, k < i ∧ l[k].kind = 3 ∧ l[k].tx = (SnapM.tell l i hi).from_ ∧ (SnapM.tell l k h).ok = true) := by
  have H := SnapM.inv hb i (by omega)
  have H' := SnapM.inv hb (i + 1) (by omega)
  obtain ⟨b1, b2, b3, b4, _⟩ := RunM.bad_zero (hb _ (List.getElem_mem hi))
  have own : (⟨l[i].tx, 2, l[i].item⟩ : OpM) ∈ l.take i ↔ l[i].item ∈ (SnapM.run (l.take i)).wr l[i].tx.toNat := by
    rw [H.w]
    constructor
    · intro hm
      obtain ⟨k, hk', he⟩ := List.mem_iff_getElem.1 hm
      rw [List.length_take] at hk'
      rw [List.getElem_take] at he
      exact ⟨k, by omega, by omega, by rw [he], by rw [he], by rw [he]⟩
    · rintro ⟨k, hk', h1, h2, h3, h4⟩
      obtain ⟨c1, _⟩ := RunM.bad_zero (hb _ (List.getElem_mem hk'))
      have e : (⟨l[i].tx, 2, l[i].item⟩ : OpM) = l[k] := by
        have : l[i].tx = l[k].tx := by omega
        rw [this, ← h4, ← h3]
      rw [e]
      exact List.mem_iff_getElem.2 ⟨k, by rw [List.length_take]; omega, by rw [List.getElem_take]⟩
  obtain ⟨e1, e2, e3, e4, e5, e6⟩ := H.begin l[i].tx.toNat
  have hfrom : (SnapM.tell l i hi).from_ = if l[i].item ∈ (SnapM.run (l.take i)).wr l[i].tx.toNat then l[i].tx else SnapM.newest ((SnapM.run (l.take i)).vs l[i].item.toNat) ((SnapM.begin (SnapM.run (l.take i)) l[i].tx.toNat).fr l[i].tx.toNat) := by
    unfold SnapM.tell SnapM.did
    simp only
    rw [if_pos hk, e1, e2]
  have comes : ∀ v ∈ (SnapM.run (l.take i)).vs l[i].item.toNat, ∃ k, ∃ h : k < l.length, k < i ∧ l[k].kind = 3 ∧ l[k].tx = v.by_ ∧ (SnapM.tell l k h).ok = true := fun v hv => (H.v _ v hv).2
  refine ⟨fun k hki he hno => ?_, fun hf => ?_, fun hf hm1 => ?_⟩
  · rw [own] at hno
    have h1 := H.r k (by omega) hki (by rw [he]; exact hk) (by rw [he]; exact hno)
    have hbg : (SnapM.run (l.take i)).began l[i].tx.toNat = true := by
      cases hbb : (SnapM.run (l.take i)).began l[i].tx.toNat with
      | true => rfl
      | false => exact absurd (by rw [he]) ((H.b _ hbb).2 k (by omega) hki)
    rw [h1, hfrom, if_neg hno, e6 _ hbg, he]
  · rw [own]
    by_cases hm : l[i].item ∈ (SnapM.run (l.take i)).wr l[i].tx.toNat
    · exact hm
    · exfalso
      rw [hfrom, if_neg hm] at hf
      rcases SnapM.newest_mem ((SnapM.run (l.take i)).vs l[i].item.toNat) ((SnapM.begin (SnapM.run (l.take i)) l[i].tx.toNat).fr l[i].tx.toNat) with h1 | ⟨v, hv, h1⟩
      · omega
      · obtain ⟨k, hk', h2, h3, h4, _⟩ := comes v hv
        have := RunM.ended hg h2 hi (by omega)
        apply this
        rw [h4, h1, hf]
  · rw [hfrom] at hf hm1 ⊢
    by_cases hm : l[i].item ∈ (SnapM.run (l.take i)).wr l[i].tx.toNat
    · rw [if_pos hm] at hf; exact absurd rfl hf
    · rw [if_neg hm] at hf hm1 ⊢
      rcases SnapM.newest_mem ((SnapM.run (l.take i)).vs l[i].item.toNat) ((SnapM.begin (SnapM.run (l.take i)) l[i].tx.toNat).fr l[i].tx.toNat) with h1 | ⟨v, hv, h1⟩
      · exact absurd h1 hm1
      · obtain ⟨k, hk', h2, h3, h4, h5⟩ := comes v hv
        exact ⟨k, hk', h2, h3, by rw [h4, h1], h5⟩
end Go.Proofs.Ytlmibgjflgkalaa
