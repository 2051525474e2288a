/- SnapFirst, in plain Lean (the law itself is still to do). -/
import Derived.Test.YtlmibgjflgkalaaSeesM
namespace Go.Proofs.Ytlmibgjflgkalaa
open Go.RowKit Go.Lib

theorem SnapM.begin_done (st : SnSt) (x : Nat) : (SnapM.begin st x).done = st.done := by unfold SnapM.begin; split <;> rfl
theorem SnapM.begin_vs (st : SnSt) (x : Nat) : (SnapM.begin st x).vs = st.vs := by unfold SnapM.begin; split <;> rfl
/-- How many have committed before operation i. -/
def SnapM.dn (l : List OpM) (i : Nat) : Int := (SnapM.run (l.take i)).done
theorem SnapM.step_done (st : SnSt) (o : OpM) : (SnapM.step st o).done = if o.kind = 3 ∧ (SnapM.did st o).ok = true then st.done + 1 else st.done := by
  unfold SnapM.step SnapM.did SnapM.commit
  simp only
  by_cases k2 : o.kind = 2
  · rw [if_pos k2, if_neg (show ¬ (o.kind = 3 ∧ _) from fun h => by omega)]
    split <;> exact SnapM.begin_done _ _
  · rw [if_neg k2]
    by_cases k3 : o.kind = 3
    · rw [if_pos k3]
      by_cases hc : SnapM.clash (SnapM.begin st o.tx.toNat) o.tx.toNat = true
      · rw [if_pos hc]; simp [k3, hc, SnapM.begin_done]
      · rw [if_neg hc]; simp [k3, hc, SnapM.begin_done]
    · rw [if_neg k3, if_neg (show ¬ (o.kind = 3 ∧ _) from fun h => k3 h.1)]
      exact SnapM.begin_done _ _
theorem SnapM.dn_succ (l : List OpM) (i : Nat) (h : i < l.length) : SnapM.dn l (i + 1) = if l[i].kind = 3 ∧ (SnapM.tell l i h).ok = true then SnapM.dn l i + 1 else SnapM.dn l i := by
  unfold SnapM.dn SnapM.tell
  rw [List.take_succ_eq_append_getElem h, SnapM.run_snoc, SnapM.step_done]
theorem SnapM.dn_mono (l : List OpM) (i : Nat) : ∀ j, i ≤ j → j ≤ l.length → SnapM.dn l i ≤ SnapM.dn l j := by
  intro j hij
  induction j with
  | zero => intro _; have : i = 0 := by omega
            subst this; exact Int.le_refl _
  | succ j ih =>
    intro hj
    by_cases e : i = j + 1
    · subst e; exact Int.le_refl _
    · have h1 := ih (by omega) (by omega)
      rw [SnapM.dn_succ l j (by omega)]
      split <;> omega
/-- What the versions and the beginnings are, before operation i. -/
structure SnapM.Inv2 (l : List OpM) (i : Nat) (st : SnSt) : Prop where
  v : ∀ it v, v ∈ st.vs it ↔ ∃ k, ∃ h : k < l.length, k < i ∧ l[k].kind = 3 ∧ l[k].tx = v.by_ ∧ (SnapM.tell l k h).ok = true ∧ SnapM.dn l k + 1 = v.at_ ∧
    ∃ j, ∃ h' : j < l.length, j < k ∧ l[j].tx = l[k].tx ∧ l[j].kind = 2 ∧ l[j].item.toNat = it
  f : ∀ x, st.began x = true → ∃ f, ∃ h : f < l.length, f < i ∧ l[f].tx.toNat = x ∧ (∀ j (h' : j < l.length), j < f → l[j].tx.toNat ≠ x) ∧ st.fr x = SnapM.dn l f
  n : ∀ x, st.began x = false → ∀ j (h : j < l.length), j < i → l[j].tx.toNat ≠ x
theorem SnapM.Inv2.start (l : List OpM) : SnapM.Inv2 l 0 SnapM.start := by
  refine ⟨fun it v => ⟨fun h => by simp [SnapM.start] at h, fun ⟨k, _, h, _⟩ => by omega⟩, fun x h => by simp [SnapM.start] at h, fun x _ j _ h => by omega⟩
theorem SnapM.put_iff (k t : Int) : ∀ (its : List Int) (vs : Nat → List VerM) (i : Nat) (v : VerM), v ∈ SnapM.put k t vs its i ↔ v ∈ vs i ∨ (v = ⟨k, t⟩ ∧ ∃ it ∈ its, it.toNat = i)
  | [], _, _, _ => by simp [SnapM.put]
  | it :: r, vs, i, v => by
    have h := SnapM.put_iff k t r (upd vs it.toNat (vs it.toNat ++ [(⟨k, t⟩ : VerM)])) i v
    simp only [SnapM.put, List.foldl_cons] at h ⊢
    rw [h]
    by_cases e : i = it.toNat
    · subst e
      rw [upd_same, List.mem_append]
      simp only [List.mem_cons, List.not_mem_nil, or_false]
      constructor
      · rintro ((h1 | h1) | ⟨h1, a, h2, h3⟩)
        · exact Or.inl h1
        · exact Or.inr ⟨h1, it, Or.inl rfl, rfl⟩
        · exact Or.inr ⟨h1, a, Or.inr h2, h3⟩
      · rintro (h1 | ⟨h1, a, h2, h3⟩)
        · exact Or.inl (Or.inl h1)
        · exact Or.inl (Or.inr h1)
    · rw [upd_other _ _ e]
      simp only [List.mem_cons]
      constructor
      · rintro (h1 | ⟨h1, a, h2, h3⟩)
        · exact Or.inl h1
        · exact Or.inr ⟨h1, a, Or.inr h2, h3⟩
      · rintro (h1 | ⟨h1, a, h2 | h2, h3⟩)
        · exact Or.inl h1
        · subst h2; exact absurd h3.symm e
        · exact Or.inr ⟨h1, a, h2, h3⟩
theorem SnapM.did_ok {st : SnSt} {o : OpM} (hk : o.kind = 3) : (SnapM.did st o).ok = !SnapM.clash (SnapM.begin st o.tx.toNat) o.tx.toNat := by
  unfold SnapM.did
  simp only
  rw [if_neg (by omega), if_pos hk]
theorem SnapM.begin_began (st : SnSt) (x y : Nat) : (SnapM.begin st x).began y = (st.began y || decide (y = x)) := by
  unfold SnapM.begin
  split
  · rename_i hb
    by_cases e : y = x
    · subst e; simp [hb]
    · simp [e]
  · simp only [upd]
    by_cases e : y = x
    · simp [e]
    · simp [e]
theorem SnapM.begin_fr (st : SnSt) (x y : Nat) : (SnapM.begin st x).fr y = if st.began x = false ∧ y = x then st.done else st.fr y := by
  unfold SnapM.begin
  split
  · rename_i hb; rw [if_neg (by simp [hb])]
  · rename_i hb
    simp only [upd]
    by_cases e : y = x
    · rw [if_pos e, if_pos ⟨by simpa using hb, e⟩]
    · rw [if_neg e, if_neg (fun h => e h.2)]
theorem SnapM.step_began (st : SnSt) (o : OpM) : (SnapM.step st o).began = (SnapM.begin st o.tx.toNat).began ∧ (SnapM.step st o).fr = (SnapM.begin st o.tx.toNat).fr := by
  unfold SnapM.step SnapM.commit
  simp only
  repeat' split
  all_goals exact ⟨rfl, rfl⟩
theorem SnapM.step_vs {l : List OpM} {i : Nat} {st : SnSt} (h : SnapM.Inv l i st) (o : OpM) : (SnapM.step st o).vs = if o.kind = 3 ∧ (SnapM.did st o).ok = true then SnapM.put o.tx (st.done + 1) st.vs (st.wr o.tx.toNat) else st.vs := by
  obtain ⟨e1, e2, e3, _⟩ := h.begin o.tx.toNat
  unfold SnapM.step SnapM.commit
  simp only
  by_cases k3 : o.kind = 3
  · rw [if_neg (by omega), if_pos k3, SnapM.did_ok k3]
    by_cases hc : SnapM.clash (SnapM.begin st o.tx.toNat) o.tx.toNat = true
    · rw [if_pos hc, if_neg (by simp [hc]), e2]
    · rw [if_neg hc, if_pos ⟨k3, by simpa using hc⟩]
      simp only [e1, e2, e3]
  · rw [if_neg (show ¬ (o.kind = 3 ∧ _) from fun h => k3 h.1)]
    repeat' split
    all_goals first
      | exact e2
      | exact absurd (by assumption) k3
theorem SnapM.Inv2.step {l : List OpM} {i : Nat} (h : SnapM.Inv2 l i (SnapM.run (l.take i))) (h1 : SnapM.Inv l i (SnapM.run (l.take i))) (hi : i < l.length) (hb : ∀ o ∈ l, RunM.bad o = 0) : SnapM.Inv2 l (i + 1) (SnapM.run (l.take (i + 1))) := by
  have er : SnapM.run (l.take (i + 1)) = SnapM.step (SnapM.run (l.take i)) l[i] := by rw [List.take_succ_eq_append_getElem hi, SnapM.run_snoc]
  rw [er]
  have htell : SnapM.tell l i hi = SnapM.did (SnapM.run (l.take i)) l[i] := rfl
  have hdn : SnapM.dn l i = (SnapM.run (l.take i)).done := rfl
  have htx : ∀ j (hj : j < l.length), l[j].tx.toNat = l[i].tx.toNat → l[j].tx = l[i].tx := fun j hj e => by
    have a := (RunM.bad_zero (hb _ (List.getElem_mem hj))).1
    have b := (RunM.bad_zero (hb _ (List.getElem_mem hi))).1
    omega
  generalize SnapM.run (l.take i) = st at *
  obtain ⟨hbg, hfr⟩ := SnapM.step_began st l[i]
  refine ⟨fun it v => ?_, fun x hx => ?_, fun x hx j hj hji => ?_⟩
  · rw [SnapM.step_vs h1]
    by_cases hc : l[i].kind = 3 ∧ (SnapM.did st l[i]).ok = true
    · rw [if_pos hc, SnapM.put_iff]
      constructor
      · rintro (hv | ⟨rfl, a, ha, hait⟩)
        · obtain ⟨k, hk, h2, h3⟩ := (h.v it v).1 hv
          exact ⟨k, hk, by omega, h3⟩
        · obtain ⟨j, hj, h2, h3, h4, h5⟩ := (h1.w _ _).1 ha
          exact ⟨i, hi, by omega, hc.1, rfl, by rw [htell]; exact hc.2, by rw [hdn], j, hj, h2, htx j hj h3, h4, by rw [h5]; exact hait⟩
      · rintro ⟨k, hk, h2, h3, h4, h5, h6, j, hj, h7, h8, h9, h10⟩
        by_cases e : k = i
        · subst e
          refine Or.inr ⟨?_, l[j].item, (h1.w _ _).2 ⟨j, hj, h7, by rw [h8], h9, rfl⟩, h10⟩
          cases v
          simp only at h4 h6
          rw [h4, ← h6, hdn]
        · exact Or.inl ((h.v it v).2 ⟨k, hk, by omega, h3, h4, h5, h6, j, hj, h7, h8, h9, h10⟩)
    · rw [if_neg hc, h.v]
      constructor
      · rintro ⟨k, hk, h2, h3⟩
        exact ⟨k, hk, by omega, h3⟩
      · rintro ⟨k, hk, h2, h3, h4, h5, h6⟩
        by_cases e : k = i
        · subst e
          exact absurd ⟨h3, by rw [← htell]; exact h5⟩ hc
        · exact ⟨k, hk, by omega, h3, h4, h5, h6⟩
  · rw [hbg, SnapM.begin_began] at hx
    rw [hfr, SnapM.begin_fr]
    by_cases hs : st.began x = true
    · obtain ⟨f, hf, h2, h3, h4, h5⟩ := h.f x hs
      refine ⟨f, hf, by omega, h3, h4, ?_⟩
      rw [if_neg (fun hh => by rw [← hh.2, hs] at hh; simp at hh), h5]
    · have hs : st.began x = false := by simpa using hs
      have hxi : x = l[i].tx.toNat := by simpa [hs] using hx
      subst hxi
      exact ⟨i, hi, by omega, rfl, fun j hj hji => h.n _ hs j hj hji, by rw [if_pos ⟨hs, rfl⟩, hdn]⟩
  · rw [hbg, SnapM.begin_began] at hx
    have hx : st.began x = false ∧ x ≠ l[i].tx.toNat := by simpa using hx
    by_cases e : j = i
    · subst e; exact fun e => hx.2 e.symm
    · exact h.n x hx.1 j hj (by omega)
theorem SnapM.inv2 {l : List OpM} (hb : ∀ o ∈ l, RunM.bad o = 0) : ∀ i, i ≤ l.length → SnapM.Inv2 l i (SnapM.run (l.take i))
  | 0, _ => SnapM.Inv2.start l
  | i + 1, hi => (SnapM.inv2 hb i (by omega)).step (SnapM.inv hb i (by omega)) (by omega) hb
/-- BERENSON and others: a Commit is let just where no Commit that was let since its first operation wrote what it wrote. -/
theorem SnapM.first {l : List OpM} (hg : RunM.go l (fun _ => false) = 0) (hb : ∀ o ∈ l, RunM.bad o = 0) {i f : Nat} (hi : i < l.length) (hk : l[i].kind = 3) (hf : f ≤ i) (hft : l[f].tx = l[i].tx) (hf0 : ∀ j (h : j < l.length), j < f → l[j].tx ≠ l[i].tx) :
    (SnapM.tell l i hi).ok = false ↔ ∃ k, ∃ h : k < l.length, k < i ∧ l[k].kind = 3 ∧ (SnapM.tell l k h).ok = true ∧ f < k ∧ ∃ q, ∃ h' : q < l.length, q < k ∧ l[q].tx = l[k].tx ∧ l[q].kind = 2 ∧ ∃ j, ∃ h'' : j < l.length, j < i ∧ l[j].tx = l[i].tx ∧ l[j].kind = 2 ∧ l[j].item = l[q].item := by
  have H := SnapM.inv hb i (by omega)
  have H2 := SnapM.inv2 hb i (by omega)
  have nn : ∀ j (hj : j < l.length), 0 ≤ l[j].tx ∧ 0 ≤ l[j].item := fun j hj => by
    obtain ⟨a, _, b, _⟩ := RunM.bad_zero (hb _ (List.getElem_mem hj)); exact ⟨a, b⟩
  have eq_tx : ∀ j (hj : j < l.length), l[j].tx.toNat = l[i].tx.toNat → l[j].tx = l[i].tx := fun j hj e => by
    have a := (nn j hj).1; have b := (nn i hi).1; omega
  have hfr : (SnapM.begin (SnapM.run (l.take i)) l[i].tx.toNat).fr l[i].tx.toNat = SnapM.dn l f := by
    rw [SnapM.begin_fr]
    cases hbg : (SnapM.run (l.take i)).began l[i].tx.toNat with
    | true =>
      obtain ⟨f', hf', h2, h3, h4, h5⟩ := H2.f _ hbg
      rw [if_neg (by simp), h5]
      have : f' = f := by
        rcases Nat.lt_trichotomy f' f with h | h | h
        · exact absurd (eq_tx f' hf' h3) (hf0 f' hf' h)
        · exact h
        · exact absurd (by rw [hft]) (h4 f (by omega) h)
      rw [this]
    | false =>
      rw [if_pos ⟨rfl, rfl⟩]
      have : f = i := by
        by_cases e : f = i
        · exact e
        · exact absurd (by rw [hft]) (H2.n _ hbg f (by omega) (by omega))
      subst this; rfl
  obtain ⟨e1, e2, _⟩ := H.begin l[i].tx.toNat
  have hok : (SnapM.tell l i hi).ok = !SnapM.clash (SnapM.begin (SnapM.run (l.take i)) l[i].tx.toNat) l[i].tx.toNat := SnapM.did_ok hk
  rw [hok]
  unfold SnapM.clash
  rw [hfr, e1, e2, Bool.not_eq_false', List.any_eq_true]
  constructor
  · rintro ⟨it, hit, hv⟩
    obtain ⟨v, hv, hlt⟩ := List.any_eq_true.1 hv
    have hlt := of_decide_eq_true hlt
    obtain ⟨k, hkl, hki, h3, h4, h5, h6, q, hq, h7, h8, h9, h10⟩ := (H2.v _ _).1 hv
    obtain ⟨j, hj, h11, h12, h13, h14⟩ := (H.w _ _).1 hit
    have hs := SnapM.dn_succ l k hkl
    rw [if_pos ⟨h3, h5⟩] at hs
    have hfk : f < k := by
      rcases Nat.lt_trichotomy k f with h | h | h
      · have := SnapM.dn_mono l (k + 1) f (by omega) (by omega)
        omega
      · subst h
        exact absurd (by rw [hft]) (RunM.ended hg hki hi (by omega))
      · exact h
    exact ⟨k, hkl, hki, h3, h5, hfk, q, hq, h7, h8, h9, j, hj, h11, eq_tx j hj h12, h13, by have a := (nn j hj).2; have b := (nn q hq).2; rw [← h14] at h10; omega⟩
  · rintro ⟨k, hkl, hki, h3, h5, hfk, q, hq, h7, h8, h9, j, hj, h11, h12, h13, h14⟩
    refine ⟨l[j].item, (H.w _ _).2 ⟨j, hj, h11, by rw [h12], h13, rfl⟩, List.any_eq_true.2 ⟨⟨l[k].tx, SnapM.dn l k + 1⟩, (H2.v _ _).2 ⟨k, hkl, hki, h3, rfl, h5, rfl, q, hq, h7, h8, h9, by rw [h14]⟩, decide_eq_true ?_⟩⟩
    have := SnapM.dn_mono l f k (by omega) (by omega)
    show SnapM.dn l f < SnapM.dn l k + 1
    omega
end Go.Proofs.Ytlmibgjflgkalaa
