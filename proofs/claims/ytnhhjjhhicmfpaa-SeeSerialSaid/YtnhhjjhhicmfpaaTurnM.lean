/- A run is like its transactions one behind another: plain. -/
import Derived.Test.YtnhhjjhhicmfpaaSwapM
namespace Go.Proofs.Ytnhhjjhhicmfpaa
open Go.RowKit Go.Lib Go.Sort
namespace RunM

/-- Right runs, said without a state: each operation is right, and nothing stands behind a transaction's end. -/
theorem go_iff : ∀ (l : List OpM) (ov : Nat → Bool), go l ov = 0 ↔ (∀ o ∈ l, bad o = 0 ∧ ov o.tx.toNat = false) ∧ l.Pairwise fun x y => x.tx = y.tx → x.kind < 3
  | [], ov => by simp [go]
  | o :: l, ov => by
    rw [go_cons, go_iff l]
    constructor
    · rintro ⟨h1, h2, h3, h4⟩
      have b1 := bad_zero h1
      refine ⟨fun x hx => ?_, List.pairwise_cons.2 ⟨fun y hy e => ?_, h4⟩⟩
      · rcases List.mem_cons.1 hx with rfl | hx
        · exact ⟨h1, h2⟩
        · obtain ⟨h5, h6⟩ := h3 x hx
          refine ⟨h5, ?_⟩
          unfold upd at h6
          split at h6
          · rename_i e; rw [e]; exact h2
          · exact h6
      · obtain ⟨h5, h6⟩ := h3 y hy
        rw [← e, upd_same] at h6
        have := of_decide_eq_false h6
        omega
    · rintro ⟨h1, h2⟩
      obtain ⟨h3, h4⟩ := List.pairwise_cons.1 h2
      obtain ⟨h5, h6⟩ := h1 o (by simp)
      refine ⟨h5, h6, fun x hx => ?_, h4⟩
      obtain ⟨h7, h8⟩ := h1 x (by simp [hx])
      refine ⟨h7, ?_⟩
      unfold upd
      split
      · rename_i e
        have b1 := bad_zero h5
        have b2 := bad_zero h7
        have := h3 x hx (by omega)
        exact decide_eq_false (by omega)
      · exact h8
theorem check_iff (l : List OpM) : check l = 0 ↔ l.length ≤ 200 ∧ (∀ o ∈ l, bad o = 0) ∧ l.Pairwise fun x y => x.tx = y.tx → x.kind < 3 := by
  unfold check
  split
  · simp; omega
  · rw [go_iff]; simp; omega
theorem check_sub {l m : List OpM} (h : check l = 0) (hs : m.Sublist l) : check m = 0 := by
  rw [check_iff] at *
  exact ⟨Nat.le_trans hs.length_le h.1, fun o ho => h.2.1 o (hs.subset ho), h.2.2.sublist hs⟩

/-- Labelled operations, one transaction behind another. -/
def turnL (L : List (OpM × Nat)) (ts : List Int) : List (OpM × Nat) := ts.flatMap fun t => L.filter fun x => x.1.tx == t
theorem lab_fst : ∀ (l acc : List OpM), (lab acc l).map Prod.fst = l
  | [], _ => rfl
  | o :: r, acc => by rw [lab, List.map_cons, lab_fst r]
theorem lab_filter (t : Int) : ∀ (l acc acc' : List OpM), acc.countP (fun q => q.tx == t) = acc'.countP (fun q => q.tx == t) → lab acc (l.filter fun o => o.tx == t) = (lab acc' l).filter fun x => x.1.tx == t
  | [], _, _, _ => rfl
  | o :: r, acc, acc', h => by
    rw [lab, List.filter_cons, List.filter_cons]
    cases e : (o.tx == t) with
    | true =>
      have e2 : o.tx = t := by simpa using e
      simp only [if_true]
      rw [lab, lab_filter t r (acc ++ [o]) (acc' ++ [o]) (by rw [List.countP_append, List.countP_append, h]), e2, h]
    | false =>
      simp only [Bool.false_eq_true, if_false]
      exact lab_filter t r acc (acc' ++ [o]) (by rw [List.countP_append, h, List.countP_singleton, e]; simp)
theorem lab_turn (l : List OpM) : ∀ (ts : List Int) (acc : List OpM), ts.Nodup → (∀ q ∈ acc, ¬ q.tx ∈ ts) → lab acc (StampM.inTurn l ts) = turnL (lab [] l) ts
  | [], _, _, _ => rfl
  | t :: ts, acc, hn, ha => by
    obtain ⟨h1, h2⟩ := List.nodup_cons.1 hn
    unfold StampM.inTurn turnL
    rw [List.flatMap_cons, List.flatMap_cons, lab_append]
    have h0 : acc.countP (fun q => q.tx == t) = ([] : List OpM).countP (fun q => q.tx == t) := by
      rw [List.countP_nil, List.countP_eq_zero]
      intro q hq
      have := ha q hq
      simp at this ⊢
      exact this.1
    rw [lab_filter t l acc [] h0]
    congr 1
    refine lab_turn l ts _ h2 ?_
    intro q hq
    rcases List.mem_append.1 hq with h | h
    · intro h3; exact ha q h (by simp [h3])
    · have : q.tx = t := by simpa using (List.mem_filter.1 h).2
      rw [this]; exact h1
theorem mem_turnL {L : List (OpM × Nat)} {x : OpM × Nat} {ts : List Int} : x ∈ turnL L ts ↔ x ∈ L ∧ x.1.tx ∈ ts := by
  unfold turnL
  simp only [List.mem_flatMap, List.mem_filter, beq_iff_eq]
  constructor
  · rintro ⟨t, ht, h, rfl⟩; exact ⟨h, ht⟩
  · rintro ⟨h, h2⟩; exact ⟨_, h2, h, rfl⟩
theorem sub2_append {α : Type} {x y : α} {A B : List α} : [x, y].Sublist (A ++ B) ↔ [x, y].Sublist A ∨ [x, y].Sublist B ∨ (x ∈ A ∧ y ∈ B) := by
  constructor
  · intro h
    obtain ⟨l1, l2, e, h1, h2⟩ := List.sublist_append_iff.1 h
    match l1, l2, e with
    | [], l2, e => rw [List.nil_append] at e; subst e; exact Or.inr (Or.inl h2)
    | [a], l2, e =>
      simp only [List.cons_append, List.nil_append, List.cons.injEq] at e
      obtain ⟨rfl, rfl⟩ := e
      exact Or.inr (Or.inr ⟨List.singleton_sublist.1 h1, List.singleton_sublist.1 h2⟩)
    | [a, b], l2, e =>
      simp only [List.cons_append, List.nil_append, List.cons.injEq] at e
      obtain ⟨rfl, rfl, rfl⟩ := e
      exact Or.inl h1
    | a :: b :: c :: r, l2, e =>
      have := congrArg List.length e
      simp at this
  · rintro (h | h | ⟨h1, h2⟩)
    · exact h.trans (List.sublist_append_left _ _)
    · exact h.trans (List.sublist_append_right _ _)
    · exact (List.singleton_sublist.2 h1).append (List.singleton_sublist.2 h2)
theorem sub2_cons {α : Type} {x y a : α} {B : List α} : [x, y].Sublist (a :: B) ↔ [x, y].Sublist B ∨ (x = a ∧ y ∈ B) := by
  rw [show a :: B = [a] ++ B from rfl, sub2_append]
  simp only [List.mem_singleton]
  constructor
  · rintro (h | h | h)
    · have := h.length_le; simp at this
    · exact Or.inl h
    · exact Or.inr h
  · rintro (h | h)
    · exact Or.inr (Or.inl h)
    · exact Or.inr (Or.inr h)
theorem sub2_turnL {L : List (OpM × Nat)} {x y : OpM × Nat} (hne : x.1.tx ≠ y.1.tx) : ∀ ts : List Int, [x, y].Sublist (turnL L ts) ↔ x ∈ L ∧ y ∈ L ∧ [x.1.tx, y.1.tx].Sublist ts
  | [] => by simp [turnL]
  | t :: ts => by
    have ih := sub2_turnL (L := L) hne ts
    have : turnL L (t :: ts) = (L.filter fun x => x.1.tx == t) ++ turnL L ts := by simp [turnL]
    rw [this, sub2_append, sub2_cons, ih, mem_turnL, List.mem_filter]
    simp only [beq_iff_eq]
    constructor
    · rintro (h | h | ⟨⟨h1, h2⟩, h3, h4⟩)
      · exfalso
        have e1 : x.1.tx = t := by simpa using (List.mem_filter.1 (h.subset (by simp : x ∈ [x, y]))).2
        have e2 : y.1.tx = t := by simpa using (List.mem_filter.1 (h.subset (by simp : y ∈ [x, y]))).2
        exact hne (e1.trans e2.symm)
      · exact ⟨h.1, h.2.1, Or.inl h.2.2⟩
      · exact ⟨h1, h3, Or.inr ⟨h2, h4⟩⟩
    · rintro ⟨h1, h2, h3 | ⟨h3, h4⟩⟩
      · exact Or.inr (Or.inl ⟨h1, h2, h3⟩)
      · exact Or.inr (Or.inr ⟨⟨h1, h3⟩, h2, h4⟩)

/-- The pairs of a labelled run are told by who stands ahead of whom. -/
theorem mem_prs {p : PairM} : ∀ {L : List (OpM × Nat)}, p ∈ prs L ↔ ∃ x y, [x, y].Sublist L ∧ clash x.1 y.1 = true ∧ p = ⟨x.1.tx, x.2, y.1.tx, y.2⟩
  | [] => by simp [prs]
  | a :: r => by
    rw [prs, List.mem_append, mem_prs]
    unfold prOf
    simp only [List.mem_map, List.mem_filter]
    constructor
    · rintro (⟨y, ⟨h1, h2⟩, rfl⟩ | ⟨x, y, h1, h2, rfl⟩)
      · exact ⟨a, y, sub2_cons.2 (Or.inr ⟨rfl, h1⟩), h2, rfl⟩
      · exact ⟨x, y, sub2_cons.2 (Or.inl h1), h2, rfl⟩
    · rintro ⟨x, y, h1, h2, rfl⟩
      rcases sub2_cons.1 h1 with h | ⟨rfl, h⟩
      · exact Or.inr ⟨x, y, h, h2, rfl⟩
      · exact Or.inl ⟨y, ⟨h, h2⟩, rfl⟩
/-- No label stands twice. -/
def Keyed (L : List (OpM × Nat)) : Prop := L.Pairwise fun x y => ¬ (x.1.tx = y.1.tx ∧ x.2 = y.2)
theorem keyed_lab : ∀ (l acc : List OpM), Keyed (lab acc l) ∧ ∀ x ∈ lab acc l, acc.countP (fun q => q.tx == x.1.tx) ≤ x.2
  | [], _ => ⟨List.Pairwise.nil, by simp [lab]⟩
  | o :: r, acc => by
    obtain ⟨h1, h2⟩ := keyed_lab r (acc ++ [o])
    refine ⟨List.pairwise_cons.2 ⟨fun y hy => ?_, h1⟩, fun x hx => ?_⟩
    · rintro ⟨e1, e2⟩
      have := h2 y hy
      simp only at e1 e2
      rw [List.countP_append, List.countP_singleton, ← e1, ← e2] at this
      simp at this
      omega
    · rw [lab] at hx
      rcases List.mem_cons.1 hx with rfl | hx
      · exact Nat.le_refl _
      · have := h2 x hx
        rw [List.countP_append] at this
        omega
theorem prs_nodup : ∀ (L : List (OpM × Nat)), Keyed L → (prs L).Nodup
  | [], _ => List.nodup_nil
  | a :: r, h => by
    obtain ⟨h1, h2⟩ := List.pairwise_cons.1 h
    rw [prs, List.nodup_append]
    refine ⟨?_, prs_nodup r h2, ?_⟩
    · unfold prOf
      refine List.pairwise_map.2 ((h2.sublist (List.filter_sublist)).imp ?_)
      intro x y hxy e
      injection e with e1 e2 e3 e4
      exact hxy ⟨e3, by omega⟩
    · intro p hp q hq e
      subst e
      obtain ⟨y, hy, rfl⟩ := List.mem_map.1 hp
      obtain ⟨x, z, hs, _, e⟩ := mem_prs.1 hq
      injection e with e1 e2 e3 e4
      exact h1 x (hs.subset (by simp)) ⟨e1, by omega⟩
theorem keyed_turn {L : List (OpM × Nat)} (h : Keyed L) {ts : List Int} (hn : ts.Nodup) : Keyed (turnL L ts) := by
  unfold Keyed turnL
  rw [List.pairwise_flatMap]
  refine ⟨fun t _ => h.sublist List.filter_sublist, hn.imp ?_⟩
  intro a b hab x hx y hy
  have e1 : x.1.tx = a := by simpa using (List.mem_filter.1 hx).2
  have e2 : y.1.tx = b := by simpa using (List.mem_filter.1 hy).2
  rintro ⟨e, _⟩
  exact hab (e1.symm.trans (e.trans e2))
theorem perm_mem {α : Type} [DecidableEq α] {l m : List α} (hl : l.Nodup) (hm : m.Nodup) (h : ∀ a, a ∈ l ↔ a ∈ m) : l.Perm m := by
  rw [List.perm_iff_count]
  intro a
  rw [hl.count, hm.count]
  simp [h a]
/-- Of two that clash, whichever stands ahead. -/
theorem sub2_two {α : Type} {x y : α} : ∀ {L : List α}, x ∈ L → y ∈ L → x ≠ y → [x, y].Sublist L ∨ [y, x].Sublist L
  | a :: r, hx, hy, hne => by
    rcases List.mem_cons.1 hx with rfl | hx
    · rcases List.mem_cons.1 hy with e | hy
      · exact absurd e.symm hne
      · exact Or.inl (sub2_cons.2 (Or.inr ⟨rfl, hy⟩))
    · rcases List.mem_cons.1 hy with e | hy
      · rw [e]; exact Or.inr (sub2_cons.2 (Or.inr ⟨rfl, hx⟩))
      · rcases sub2_two hx hy hne with h | h
        · exact Or.inl (sub2_cons.2 (Or.inl h))
        · exact Or.inr (sub2_cons.2 (Or.inl h))
theorem sub2_anti {α : Type} {x y : α} {L : List α} (hn : L.Nodup) (h1 : [x, y].Sublist L) (h2 : [y, x].Sublist L) : False := by
  induction L with
  | nil => simp at h1
  | cons a r ih =>
    obtain ⟨hn1, hn2⟩ := List.nodup_cons.1 hn
    rcases sub2_cons.1 h1 with h | ⟨rfl, h⟩
    · rcases sub2_cons.1 h2 with h3 | ⟨rfl, h3⟩
      · exact ih hn2 h h3
      · exact hn1 (h.subset (by simp))
    · rcases sub2_cons.1 h2 with h3 | ⟨h4, h3⟩
      · exact hn1 (h3.subset (by simp))
      · subst h4; exact hn1 h
theorem sub2_map {l : List OpM} {a b : OpM} : [a, b].Sublist l ↔ ∃ x y, [x, y].Sublist (lab [] l) ∧ x.1 = a ∧ y.1 = b := by
  constructor
  · intro h
    rw [← lab_fst l []] at h
    obtain ⟨l', h1, h2⟩ := List.sublist_map_iff.1 h
    match l', h2 with
    | [x, y], h2 =>
      simp only [List.map_cons, List.map_nil, List.cons.injEq, and_true] at h2
      exact ⟨x, y, h1, h2.1.symm, h2.2.symm⟩
  · rintro ⟨x, y, h, rfl, rfl⟩
    have := h.map Prod.fst
    rwa [lab_fst] at this
theorem pairs_turn {m : List OpM} {s : List Int} (hs : s.Nodup) (ha : ∀ o ∈ m, o.tx ∈ s) :
    (pairs m).Perm (pairs (StampM.inTurn m s)) ↔ ∀ a b, [a, b].Sublist m → clash a b = true → [a.tx, b.tx].Sublist s := by
  have hk := (keyed_lab m []).1
  rw [pairs_lab, pairs_lab, lab_turn m s [] hs (by simp)]
  have hne : ∀ {a b : OpM}, clash a b = true → a.tx ≠ b.tx := by
    intro a b h e
    unfold clash at h
    rw [e] at h; simp at h
  have hin : ∀ {x : OpM × Nat}, x ∈ lab [] m → x.1.tx ∈ s := by
    intro x hx
    refine ha _ ?_
    have := List.mem_map_of_mem (f := Prod.fst) hx
    rwa [lab_fst] at this
  constructor
  · intro hp a b hab hc
    obtain ⟨x, y, hxy, rfl, rfl⟩ := sub2_map.1 hab
    obtain ⟨x', y', h1, h2, e⟩ := mem_prs.1 (hp.mem_iff.1 (mem_prs.2 ⟨x, y, hxy, hc, rfl⟩))
    injection e with e1 e2 e3 e4
    have := ((sub2_turnL (hne h2) s).1 h1).2.2
    rwa [e1, e3]
  · intro h
    refine perm_mem (prs_nodup _ hk) (prs_nodup _ (keyed_turn hk hs)) fun p => ?_
    rw [mem_prs, mem_prs]
    constructor
    · rintro ⟨x, y, hxy, hc, rfl⟩
      refine ⟨x, y, (sub2_turnL (hne hc) s).2 ⟨hxy.subset (by simp), hxy.subset (by simp), ?_⟩, hc, rfl⟩
      exact h _ _ (sub2_map.2 ⟨x, y, hxy, rfl, rfl⟩) hc
    · rintro ⟨x, y, hxy, hc, rfl⟩
      obtain ⟨h1, h2, h3⟩ := (sub2_turnL (hne hc) s).1 hxy
      refine ⟨x, y, ?_, hc, rfl⟩
      rcases sub2_two h1 h2 (fun e => hne hc (by rw [e])) with h4 | h4
      · exact h4
      · exact (sub2_anti hs h3 (h _ _ (sub2_map.2 ⟨y, x, h4, rfl, rfl⟩) (by rw [clash_comm]; exact hc))).elim
theorem of_turn {m : List OpM} (t : Nat) : ∀ {s : List Int}, s.Nodup → of (StampM.inTurn m s) t = if (t : Int) ∈ s then of m t else []
  | [], _ => by simp [StampM.inTurn, of]
  | u :: s, hs => by
    obtain ⟨h1, h2⟩ := List.nodup_cons.1 hs
    have : StampM.inTurn m (u :: s) = (m.filter fun o => o.tx == u) ++ StampM.inTurn m s := by simp [StampM.inTurn]
    have ih := of_turn (m := m) t h2
    unfold of at ih ⊢
    rw [this, List.filter_append, ih, List.filter_filter]
    by_cases e : (t : Int) = u
    · subst e
      rw [if_neg h1, if_pos (by simp), List.append_nil]
      congr 1; funext o; simp
    · have : (m.filter fun o => (o.tx == (t : Int)) && (o.tx == u)) = [] := by
        rw [List.filter_eq_nil_iff]
        intro o _
        simp
        omega
      rw [this, List.nil_append]
      by_cases h : (t : Int) ∈ s
      · rw [if_pos h, if_pos (by simp [h])]
      · rw [if_neg h, if_neg (by simp [h, e])]
theorem turn_perm {m : List OpM} {s : List Int} (hs : s.Nodup) (ha : ∀ o ∈ m, o.tx ∈ s) : (StampM.inTurn m s).Perm m := by
  rw [List.perm_iff_count]
  intro a
  have key : ∀ {s : List Int}, s.Nodup → (StampM.inTurn m s).count a = if a.tx ∈ s then m.count a else 0 := by
    intro s
    induction s with
    | nil => intro _; simp [StampM.inTurn]
    | cons u s ih =>
      intro hs
      obtain ⟨h1, h2⟩ := List.nodup_cons.1 hs
      have : StampM.inTurn m (u :: s) = (m.filter fun o => o.tx == u) ++ StampM.inTurn m s := by simp [StampM.inTurn]
      rw [this, List.count_append, ih h2]
      by_cases e : a.tx = u
      · subst e
        rw [if_neg h1, if_pos (by simp), List.count_filter (by simp)]; rfl
      · have : (m.filter fun o => o.tx == u).count a = 0 := by
          rw [List.count_eq_zero]
          intro h
          exact e (by simpa using (List.mem_filter.1 h).2)
        rw [this]
        by_cases h : a.tx ∈ s
        · rw [if_pos h, if_pos (by simp [h])]; omega
        · rw [if_neg h, if_neg (by simp [h, e])]
  rw [key hs]
  split
  · rfl
  · rename_i h
    symm
    rw [List.count_eq_zero]
    intro h2
    exact h (ha a h2)
theorem check_turn {m : List OpM} {s : List Int} (h : check m = 0) (hs : s.Nodup) (ha : ∀ o ∈ m, o.tx ∈ s) : check (StampM.inTurn m s) = 0 := by
  have hp := turn_perm hs ha
  rw [check_iff] at *
  refine ⟨by rw [hp.length_eq]; exact h.1, fun o ho => h.2.1 o (hp.mem_iff.1 ho), ?_⟩
  unfold StampM.inTurn
  rw [List.pairwise_flatMap]
  refine ⟨fun t _ => h.2.2.sublist List.filter_sublist, hs.imp ?_⟩
  intro a b hab x hx y hy e
  have e1 : x.tx = a := by simpa using (List.mem_filter.1 hx).2
  have e2 : y.tx = b := by simpa using (List.mem_filter.1 hy).2
  exact absurd (e1.symm.trans (e.trans e2)) hab
/-- A run is like its transactions one behind another just if, of two that clash, whose operation is ahead stands ahead. -/
theorem like_turn {m : List OpM} {s : List Int} (h : check m = 0) (hs : s.Nodup) (ha : ∀ o ∈ m, o.tx ∈ s) :
    likeOk m (StampM.inTurn m s) = 0 ∧ (like m (StampM.inTurn m s) = true ↔ ∀ a b, [a, b].Sublist m → clash a b = true → [a.tx, b.tx].Sublist s) := by
  have h2 := check_turn h hs ha
  refine ⟨by unfold likeOk; rw [h, h2]; simp, ?_⟩
  unfold like
  rw [h, h2]
  have e1 : sameTo m (StampM.inTurn m s) 12 = true := by
    unfold sameTo
    rw [List.all_eq_true]
    intro t _
    refine decide_eq_true ?_
    rw [of_turn t hs]
    split
    · rfl
    · rename_i h3
      unfold of
      rw [List.filter_eq_nil_iff]
      intro o ho
      simp
      intro e
      exact h3 (e ▸ ha o ho)
  rw [e1]
  simp only [decide_true, Bool.true_and]
  rw [decide_eq_true_eq, PairM.sorted_eq, pairs_turn hs ha]
/-- A run without those that do not commit. -/
def ofCom (l : List OpM) : List OpM := l.filter fun o => decide ((⟨o.tx, 3, 0⟩ : OpM) ∈ l)
theorem ofCom_check {l : List OpM} (h : check l = 0) : check (ofCom l) = 0 := check_sub h List.filter_sublist
end RunM
end Go.Proofs.Ytnhhjjhhicmfpaa
