/- Runs that are like each other show the same: plain. -/
import Derived.Test.YtnhhjjhhicmfpaaSeeW
import Derived.Test.YtnhhjjhhicmfpaaTurnM
namespace Go.Proofs.Ytnhhjjhhicmfpaa
open Go.RowKit Go.Lib
namespace SeeM
open RunM

abbrev Ev := OpM × Nat
def key (x : Ev) : EgM := ⟨x.1.tx, (x.2 : Int)⟩
/-- Two that hang on which comes first, of whatever transactions. -/
def Cf (x y : Ev) : Prop := x.1.kind < 3 ∧ y.1.kind < 3 ∧ x.1.item = y.1.item ∧ (x.1.kind = 2 ∨ y.1.kind = 2)
/-- What two runs that are like each other share. -/
structure Alk (L M : List Ev) : Prop where
  mem : ∀ x, x ∈ L ↔ x ∈ M
  sub : ∀ x y, Cf x y → ([x, y].Sublist L ↔ [x, y].Sublist M)
theorem lab_filterT (l : List OpM) (t : Nat) : (lab [] l).filter (fun x => x.1.tx == (t : Int)) = lab [] (of l t) := by
  unfold of
  exact (lab_filter (t : Int) l [] [] rfl).symm
theorem sub2_filter {α : Type} {x y : α} {p : α → Bool} {L : List α} (hx : p x = true) (hy : p y = true) : [x, y].Sublist L ↔ [x, y].Sublist (L.filter p) := by
  constructor
  · intro h
    have := h.filter p
    rwa [List.filter_cons, if_pos hx, List.filter_cons, if_pos hy, List.filter_nil] at this
  · intro h; exact h.trans List.filter_sublist
theorem keyed_same {L : List Ev} (h : Keyed L) {x y : Ev} (hx : x ∈ L) (hy : y ∈ L) (h1 : x.1.tx = y.1.tx) (h2 : x.2 = y.2) : x = y := by
  apply Classical.byContradiction
  intro hne
  rcases sub2_two hx hy hne with hs | hs
  · have := h.sublist hs
    exact (List.pairwise_cons.1 this).1 y (by simp) ⟨h1, h2⟩
  · have := h.sublist hs
    exact (List.pairwise_cons.1 this).1 x (by simp) ⟨h1.symm, h2.symm⟩
theorem lab_mem {l : List OpM} {x : Ev} (h : x ∈ lab [] l) : x.1 ∈ l := by
  have := List.mem_map_of_mem (f := Prod.fst) h
  rwa [lab_fst] at this
theorem like_mem {l m : List OpM} (hl : check l = 0) (hs : sameTo l m 12 = true) {x : Ev} (h : x ∈ lab [] l) : x ∈ lab [] m := by
  have hb := bad_zero (((check_iff l).1 hl).2.1 x.1 (lab_mem h))
  obtain ⟨t, ht⟩ := Int.eq_ofNat_of_zero_le hb.1
  have ht12 : t < 12 := by omega
  have ho : of l t = of m t := of_decide_eq_true (List.all_eq_true.1 hs t (List.mem_range.2 ht12))
  have h1 : x ∈ (lab [] l).filter (fun x => x.1.tx == (t : Int)) := List.mem_filter.2 ⟨h, by simpa using ht⟩
  rw [lab_filterT, ho, ← lab_filterT] at h1
  exact (List.mem_filter.1 h1).1
theorem sameTo_symm {l m : List OpM} {n : Nat} (h : sameTo l m n = true) : sameTo m l n = true := by
  unfold sameTo at *
  rw [List.all_eq_true] at *
  intro t ht
  have := of_decide_eq_true (h t ht)
  exact decide_eq_true this.symm
theorem like_half {l m : List OpM} (hl : check l = 0) (hs : sameTo l m 12 = true) (hp : (pairs l).Perm (pairs m)) {x y : Ev} (hc : Cf x y) (h : [x, y].Sublist (lab [] l)) : [x, y].Sublist (lab [] m) := by
  have hx := h.subset (by simp : x ∈ [x, y])
  have hy := h.subset (by simp : y ∈ [x, y])
  by_cases e : x.1.tx = y.1.tx
  · have hb := bad_zero (((check_iff l).1 hl).2.1 x.1 (lab_mem hx))
    obtain ⟨t, ht⟩ := Int.eq_ofNat_of_zero_le hb.1
    have ht12 : t < 12 := by omega
    have ho : of l t = of m t := of_decide_eq_true (List.all_eq_true.1 hs t (List.mem_range.2 ht12))
    have px : ((fun x : Ev => x.1.tx == (t : Int)) x) = true := by simpa using ht
    have py : ((fun x : Ev => x.1.tx == (t : Int)) y) = true := by simpa using e ▸ ht
    rw [sub2_filter (p := fun x : Ev => x.1.tx == (t : Int)) px py, lab_filterT, ho, ← lab_filterT] at h
    exact (sub2_filter (p := fun x : Ev => x.1.tx == (t : Int)) px py).2 h
  · have hcl : clash x.1 y.1 = true := by
      obtain ⟨c1, c2, c3, c4⟩ := hc
      unfold clash
      simp only [Bool.and_eq_true, Bool.not_eq_true', beq_eq_false_iff_ne, decide_eq_true_eq, beq_iff_eq, Bool.or_eq_true]
      exact ⟨⟨⟨⟨e, c1⟩, c2⟩, c3⟩, c4⟩
    rw [pairs_lab, pairs_lab] at hp
    obtain ⟨x', y', h1, h2, h3⟩ := mem_prs.1 (hp.mem_iff.1 (mem_prs.2 ⟨x, y, h, hcl, rfl⟩))
    injection h3 with e1 e2 e3 e4
    have hk := (keyed_lab m []).1
    have ex : x = x' := keyed_same hk (like_mem hl hs hx) (h1.subset (by simp)) e1 (by omega)
    have ey : y = y' := keyed_same hk (like_mem hl hs hy) (h1.subset (by simp)) e3 (by omega)
    rw [ex, ey]; exact h1
theorem like_alk {l m : List OpM} (h : like l m = true) : check l = 0 ∧ check m = 0 ∧ Alk (lab [] l) (lab [] m) := by
  unfold like at h
  simp only [Bool.and_eq_true, decide_eq_true_eq] at h
  obtain ⟨⟨⟨h1, h2⟩, h3⟩, h4⟩ := h
  have hp := (PairM.sorted_eq _ _).1 h4
  exact ⟨h1, h2, fun x => ⟨like_mem h1 h3, like_mem h2 (sameTo_symm h3)⟩, fun x y hc => ⟨like_half h1 h3 hp hc, like_half h2 (sameTo_symm h3) hp.symm hc⟩⟩

/-- From whom x reads. -/
def From (L : List Ev) (x : Ev) (v : EgM) : Prop :=
  (v = ⟨-1, -1⟩ ∧ ∀ y, [y, x].Sublist L → ¬ (y.1.kind = 2 ∧ y.1.item = x.1.item)) ∨
  ∃ y, [y, x].Sublist L ∧ (y.1.kind = 2 ∧ y.1.item = x.1.item) ∧ v = key y ∧ ∀ z, [z, x].Sublist L → z.1.kind = 2 ∧ z.1.item = x.1.item → z = y ∨ [z, y].Sublist L
theorem From.uniq {L : List Ev} (hn : L.Nodup) {x : Ev} {u v : EgM} (h1 : From L x u) (h2 : From L x v) : u = v := by
  rcases h1 with ⟨e1, a1⟩ | ⟨y, s1, c1, e1, a1⟩
  · rcases h2 with ⟨e2, _⟩ | ⟨z, s2, c2, _, _⟩
    · rw [e1, e2]
    · exact absurd c2 (a1 z s2)
  · rcases h2 with ⟨_, a2⟩ | ⟨z, s2, c2, e2, a2⟩
    · exact absurd c1 (a2 y s1)
    · rcases a1 z s2 c2 with h | h
      · rw [e1, e2, h]
      · rcases a2 y s1 c1 with h3 | h3
        · rw [e1, e2, h3]
        · exact (sub2_anti hn h h3).elim
theorem From.move {L M : List Ev} (h : Alk L M) {x : Ev} (hx : x.1.kind = 1) {v : EgM} (hf : From L x v) : From M x v := by
  have hc : ∀ y : Ev, y.1.kind = 2 ∧ y.1.item = x.1.item → Cf y x := fun y hy => ⟨by omega, by omega, hy.2, Or.inl hy.1⟩
  have hw : ∀ y z : Ev, y.1.kind = 2 ∧ y.1.item = x.1.item → z.1.kind = 2 ∧ z.1.item = x.1.item → Cf z y := fun y z hy hz => ⟨by omega, by omega, by rw [hy.2, hz.2], Or.inl hz.1⟩
  rcases hf with ⟨e1, a1⟩ | ⟨y, s1, c1, e1, a1⟩
  · exact Or.inl ⟨e1, fun y hy hh => a1 y ((h.sub y x (hc y hh)).2 hy) hh⟩
  · refine Or.inr ⟨y, (h.sub y x (hc y c1)).1 s1, c1, e1, fun z hz hh => ?_⟩
    rcases a1 z ((h.sub z x (hc z hh)).2 hz) hh with h2 | h2
    · exact Or.inl h2
    · exact Or.inr ((h.sub z y (hw y z c1 hh)).1 h2)
/-- Whose write of an item is last. -/
def Lst (L : List Ev) (it : Nat) (v : EgM) : Prop :=
  (v = ⟨-1, -1⟩ ∧ ∀ y ∈ L, ¬ (y.1.kind = 2 ∧ y.1.item = (it : Int))) ∨
  ∃ y ∈ L, (y.1.kind = 2 ∧ y.1.item = (it : Int)) ∧ v = key y ∧ ∀ z ∈ L, z.1.kind = 2 ∧ z.1.item = (it : Int) → z = y ∨ [z, y].Sublist L
theorem Lst.uniq {L : List Ev} (hn : L.Nodup) {it : Nat} {u v : EgM} (h1 : Lst L it u) (h2 : Lst L it v) : u = v := by
  rcases h1 with ⟨e1, a1⟩ | ⟨y, s1, c1, e1, a1⟩
  · rcases h2 with ⟨e2, _⟩ | ⟨z, s2, c2, _, _⟩
    · rw [e1, e2]
    · exact absurd c2 (a1 z s2)
  · rcases h2 with ⟨_, a2⟩ | ⟨z, s2, c2, e2, a2⟩
    · exact absurd c1 (a2 y s1)
    · rcases a1 z s2 c2 with h | h
      · rw [e1, e2, h]
      · rcases a2 y s1 c1 with h3 | h3
        · rw [e1, e2, h3]
        · exact (sub2_anti hn h h3).elim
theorem Lst.move {L M : List Ev} (h : Alk L M) {it : Nat} {v : EgM} (hf : Lst L it v) : Lst M it v := by
  have hw : ∀ y z : Ev, y.1.kind = 2 ∧ y.1.item = (it : Int) → z.1.kind = 2 ∧ z.1.item = (it : Int) → Cf z y := fun y z hy hz => ⟨by omega, by omega, by rw [hy.2, hz.2], Or.inl hz.1⟩
  rcases hf with ⟨e1, a1⟩ | ⟨y, s1, c1, e1, a1⟩
  · exact Or.inl ⟨e1, fun y hy hh => a1 y ((h.mem y).2 hy) hh⟩
  · refine Or.inr ⟨y, (h.mem y).1 s1, c1, e1, fun z hz hh => ?_⟩
    rcases a1 z ((h.mem z).2 hz) hh with h2 | h2
    · exact Or.inl h2
    · exact Or.inr ((h.sub z y (hw y z c1 hh)).1 h2)

theorem sub2_at {α : Type} {x y : α} : ∀ {l : List α}, [x, y].Sublist l ↔ ∃ i j : Nat, i < j ∧ l[i]? = some x ∧ l[j]? = some y
  | [] => by simp
  | a :: r => by
    rw [sub2_cons, sub2_at]
    constructor
    · rintro (⟨i, j, h, h1, h2⟩ | ⟨rfl, h⟩)
      · exact ⟨i + 1, j + 1, by omega, by simpa using h1, by simpa using h2⟩
      · obtain ⟨j, hj, e⟩ := List.mem_iff_getElem.1 h
        exact ⟨0, j + 1, by omega, by simp, by simp [hj, e]⟩
    · rintro ⟨i, j, h, h1, h2⟩
      cases j with
      | zero => omega
      | succ j =>
        cases i with
        | zero =>
          right
          refine ⟨by simpa using h1.symm, ?_⟩
          rw [List.getElem?_cons_succ] at h2
          exact List.mem_of_getElem? h2
        | succ i => exact Or.inl ⟨i, j, by omega, by simpa using h1, by simpa using h2⟩
/-- The event at a place. -/
def ev (l : List OpM) (i : Nat) : Ev := (l[i]!, RunM.ord l i)
theorem lab_ev (l : List OpM) : lab [] l = (List.range l.length).map (ev l) := lab_of l
theorem lab_get {l : List OpM} {i : Nat} {x : Ev} : (lab [] l)[i]? = some x ↔ i < l.length ∧ x = ev l i := by
  rw [lab_ev, List.getElem?_map]
  by_cases h : i < l.length
  · rw [List.getElem?_range h]; simp [h, eq_comm]
  · rw [List.getElem?_eq_none (by simpa using h)]; simp [h]
theorem sub2_ev {l : List OpM} {x y : Ev} : [x, y].Sublist (lab [] l) ↔ ∃ i j, i < j ∧ j < l.length ∧ x = ev l i ∧ y = ev l j := by
  rw [sub2_at]
  constructor
  · rintro ⟨i, j, hij, h1, h2⟩
    obtain ⟨_, e1⟩ := lab_get.1 h1
    obtain ⟨hj, e2⟩ := lab_get.1 h2
    exact ⟨i, j, hij, hj, e1, e2⟩
  · rintro ⟨i, j, hij, hj, e1, e2⟩
    exact ⟨i, j, hij, lab_get.2 ⟨by omega, e1⟩, lab_get.2 ⟨hj, e2⟩⟩
theorem mem_ev {l : List OpM} {x : Ev} : x ∈ lab [] l ↔ ∃ i, i < l.length ∧ x = ev l i := by
  rw [lab_ev, List.mem_map]
  constructor
  · rintro ⟨i, hi, rfl⟩; exact ⟨i, List.mem_range.1 hi, rfl⟩
  · rintro ⟨i, hi, rfl⟩; exact ⟨i, List.mem_range.2 hi, rfl⟩
theorem lab_nodup (l : List OpM) : (lab [] l).Nodup := by
  refine (keyed_lab l []).1.imp ?_
  rintro x y h rfl
  exact h ⟨rfl, rfl⟩
theorem ev_inj {l : List OpM} {i j : Nat} (hi : i < l.length) (hj : j < l.length) (h : ev l i = ev l j) : i = j := by
  have hn := lab_nodup l
  have h1 := lab_get.2 ⟨hi, rfl⟩
  have h2 := lab_get.2 ⟨hj, rfl⟩
  rw [← h] at h2
  obtain ⟨l1, f1⟩ := List.getElem?_eq_some_iff.1 h1
  obtain ⟨l2, f2⟩ := List.getElem?_eq_some_iff.1 h2
  exact (List.getElem_inj hn).1 (f1.trans f2.symm)
theorem nmOf_key (l : List OpM) (i : Nat) : nmOf l (i : Int) = key (ev l i) := by
  unfold nmOf key ev
  rw [if_neg (by omega), Int.toNat_natCast]
theorem hit_iff {o : OpM} {it : Nat} : hitW o it = true ↔ o.kind = 2 ∧ o.item = (it : Int) := by
  unfold hitW; simp
theorem from_ev {l : List OpM} {i : Nat} (hi : i < l.length) (hb : bad (l[i]!) = 0) : From (lab [] l) (ev l i) (nmOf l (lastTo l (l[i]!).item.toNat i)) := by
  have b := bad_zero hb
  obtain ⟨it, hit⟩ := Int.eq_ofNat_of_zero_le b.2.2.1
  rw [hit, Int.toNat_natCast]
  have hx : (ev l i).1.item = (it : Int) := hit
  rcases lastTo_spec l it i with ⟨h1, h2⟩ | ⟨j, h1, h2, h3, h4⟩
  · left
    refine ⟨by rw [h1]; rfl, fun y hy hh => ?_⟩
    obtain ⟨a, b2, hab, hbl, rfl, e2⟩ := sub2_ev.1 hy
    have := ev_inj hi hbl e2
    subst this
    have := h2 a hab
    rw [hx] at hh
    have h9 : hitW l[a]! it = true := hit_iff.2 hh
    rw [h9] at this; cases this
  · right
    refine ⟨ev l j, sub2_ev.2 ⟨j, i, h1, hi, rfl, rfl⟩, by rw [hx]; exact hit_iff.1 h3, by rw [h2, nmOf_key], fun z hz hh => ?_⟩
    obtain ⟨a, b2, hab, hbl, rfl, e2⟩ := sub2_ev.1 hz
    have := ev_inj hi hbl e2
    subst this
    rw [hx] at hh
    rcases Nat.lt_trichotomy a j with h | h | h
    · exact Or.inr (sub2_ev.2 ⟨a, j, h, by omega, rfl, rfl⟩)
    · exact Or.inl (by rw [h])
    · have := h4 a h hab
      have h9 : hitW l[a]! it = true := hit_iff.2 hh
      rw [h9] at this; cases this
theorem lst_ev (l : List OpM) (it : Nat) : Lst (lab [] l) it (lastN l it) := by
  unfold lastN
  rcases lastTo_spec l it l.length with ⟨h1, h2⟩ | ⟨j, h1, h2, h3, h4⟩
  · left
    refine ⟨by rw [h1]; rfl, fun y hy hh => ?_⟩
    obtain ⟨a, ha, rfl⟩ := mem_ev.1 hy
    have := h2 a ha
    have h9 : hitW l[a]! it = true := hit_iff.2 hh
    rw [h9] at this; cases this
  · right
    refine ⟨ev l j, mem_ev.2 ⟨j, h1, rfl⟩, hit_iff.1 h3, by rw [h2, nmOf_key], fun z hz hh => ?_⟩
    obtain ⟨a, ha, rfl⟩ := mem_ev.1 hz
    rcases Nat.lt_trichotomy a j with h | h | h
    · exact Or.inr (sub2_ev.2 ⟨a, j, h, h1, rfl, rfl⟩)
    · exact Or.inl (by rw [h])
    · have := h4 a h ha
      have h9 : hitW l[a]! it = true := hit_iff.2 hh
      rw [h9] at this; cases this
theorem mem_view {l : List OpM} {p : EgM × EgM} : p ∈ view l ↔ ∃ i : Nat, i < l.length ∧ (l[i]!).kind = 1 ∧ p = (key (ev l i), nmOf l (lastTo l (l[i]!).item.toNat i)) := by
  unfold view readsTo
  rw [List.map_map, List.mem_map]
  constructor
  · rintro ⟨i, hi, rfl⟩
    obtain ⟨h1, h2⟩ := List.mem_filter.1 hi
    exact ⟨i, List.mem_range.1 h1, by simpa using h2, by simp [nmOf_key]⟩
  · rintro ⟨i, hi, hk, rfl⟩
    exact ⟨i, List.mem_filter.2 ⟨List.mem_range.2 hi, by simpa using hk⟩, by simp [nmOf_key]⟩
theorem view_sub {l m : List OpM} (hl : check l = 0) (hm : check m = 0) (h : Alk (lab [] l) (lab [] m)) {p : EgM × EgM} (hp : p ∈ view l) : p ∈ view m := by
  obtain ⟨i, hi, hk, rfl⟩ := mem_view.1 hp
  obtain ⟨j, hj, e⟩ := mem_ev.1 ((h.mem _).1 (mem_ev.2 ⟨i, hi, rfl⟩))
  have hb : ∀ {l : List OpM} {i : Nat}, check l = 0 → i < l.length → bad (l[i]!) = 0 := fun {l i} hc hi => by
    rw [getElem!_pos l i hi]; exact ((check_iff _).1 hc).2.1 _ (List.getElem_mem hi)
  have f1 := (from_ev hi (hb hl hi)).move h hk
  have f2 := from_ev hj (hb hm hj)
  rw [← e] at f2
  have hu := From.uniq (lab_nodup m) f1 f2
  have ej : m[j]! = l[i]! := (congrArg Prod.fst e).symm
  rw [hu]
  refine mem_view.2 ⟨j, hj, by rw [ej]; exact hk, ?_⟩
  rw [← e]
theorem view_len (l : List OpM) : (view l).length = ((lab [] l).filter fun x => x.1.kind == 1).length := by
  unfold view readsTo
  rw [List.length_map, List.length_map, lab_ev, List.filter_map, List.length_map]
  rfl
/-- Runs that are like each other show the same. -/
theorem like_alike {l m : List OpM} (h : like l m = true) : alike l m = true := by
  obtain ⟨hl, hm, ha⟩ := like_alk h
  unfold alike
  rw [Bool.and_eq_true, Bool.and_eq_true]
  refine ⟨⟨?_, ?_⟩, ?_⟩
  · rw [List.all_eq_true]
    intro it _
    exact decide_eq_true (Lst.uniq (lab_nodup m) ((lst_ev l it).move ha) (lst_ev m it))
  · refine decide_eq_true ?_
    rw [view_len, view_len]
    exact ((perm_mem (lab_nodup l) (lab_nodup m) ha.mem).filter _).length_eq
  · rw [List.all_eq_true]
    intro p hp
    exact decide_eq_true (view_sub hl hm ha hp)
end SeeM
end Go.Proofs.Ytnhhjjhhicmfpaa
