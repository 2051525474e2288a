/- WalFalls: Append, in plain Lean. -/
import Derived.Test.YtpeaefeoogcepaaDoorWalI2
namespace Go.Proofs.YtpeaefeoogcepaaDoor
open Go.RowKit Go.Lib
open WalM

namespace WalM
theorem poss_write {d : DiskM} {p : Nat} {s : List UInt8} (h : SectM.wrote d ((2 + p : Nat) : Int) (BA s) = 0) (h1 : 1 ≤ p) (h2 : p < 20) (x : Nat) (c : List UInt8) :
    Poss (SectM.write d ((2 + p : Nat) : Int) (BA s)) 2 20 x c ↔ Poss d 2 20 x c ∨ (x = p ∧ c = pad s) := by
  unfold Poss
  rw [may_write h]
  by_cases hx : x = p
  · subst hx
    rw [if_pos rfl]
    constructor
    · rintro ⟨a, b, y, hy, rfl⟩
      rcases List.mem_append.1 hy with hy | hy
      · exact Or.inl ⟨a, b, y, hy, rfl⟩
      · rw [List.mem_singleton] at hy
        exact Or.inr ⟨rfl, by rw [hy, pad_is]⟩
    · rintro (⟨a, b, y, hy, rfl⟩ | ⟨_, rfl⟩)
      · exact ⟨a, b, y, List.mem_append_left _ hy, rfl⟩
      · exact ⟨h1, h2, _, List.mem_append_right _ (List.mem_singleton_self _), pad_is.symm⟩
  · rw [if_neg (by omega)]
    constructor
    · exact Or.inl
    · rintro (h | ⟨e, _⟩)
      · exact h
      · exact absurd e hx
theorem view_write {d : DiskM} (hg : SectM.Good 24 d) {p : Nat} {s : List UInt8} (h : SectM.wrote d ((2 + p : Nat) : Int) (BA s) = 0) (h1 : 1 ≤ p) (h2 : p < 20) (x : Nat) :
    view (SectM.write d ((2 + p : Nat) : Int) (BA s)) 2 20 x = if x = p then pad s else view d 2 20 x := by
  unfold view
  by_cases hx : 1 ≤ x ∧ x < 20
  · rw [if_pos hx, if_pos hx, seen_write hg (by omega) h]
    by_cases e : x = p
    · rw [if_pos e, if_pos (by omega), pad_is]
    · rw [if_neg e, if_neg (by omega)]
  · rw [if_neg hx, if_neg hx, if_neg (by omega)]
/-- What is kept besides. -/
structure Side (d d' : DiskM) (m : Nat) : Prop where
  good : SectM.Good 24 d'
  may2 : may d' 2 = may d 2
  seen2 : d'.seen.getD 2 SectM.blank = d.seen.getD 2 SectM.blank
  late : d'.late.length ≤ d.late.length + m
theorem writes_ok {E : Int} {old new : List Rcd} {k : Nat} {O : Nat → List UInt8} {t : List UInt8} {S : List (List UInt8)} (hS : sectors E (old ++ new).length t = S) (ht : t.length ≤ 300) (hfit : stop 1 0 (old ++ new) + S.length ≤ 20) :
    ∀ (r : List (List UInt8)) (part : List (List UInt8)) (d : DiskM), r = S.drop part.length → part.length < S.length → part = (S.map pad).take part.length →
      SectM.Good 24 d → J 20 E old new part k (Poss d 2 20) O → Seen 20 old new part (Poss d 2 20) (view d 2 20) → ∀ x, writesM d (2 + (stop 1 0 (old ++ new) + part.length)) r = x →
      Side d x.1 r.length ∧ (x.2 = 0 → J 20 E old (new ++ [⟨E, t⟩]) [] k (Poss x.1 2 20) O ∧ Seen 20 old (new ++ [⟨E, t⟩]) [] (Poss x.1 2 20) (view x.1 2 20)) ∧ (x.2 ≠ 0 → ∃ part', J 20 E old new part' k (Poss x.1 2 20) O)
  | [], part, d, hr, hn, _, _, _, _, _, _ => by
    have := congrArg List.length hr
    rw [List.length_drop] at this
    simp at this; omega
  | s :: r, part, d, hr, hn, hpt, hg, hj, hs, x, hx => by
    have hs0 : s = S[part.length] := by
      rw [List.drop_eq_getElem_cons hn] at hr
      injection hr
    have hr1 : r = S.drop (part.length + 1) := by
      rw [List.drop_eq_getElem_cons hn] at hr
      injection hr
    have hsl : s.length ≤ 64 := by rw [hs0]; exact (sectors_form (e := E) (q := ((old ++ new).length : Nat)) (t := t) (by rw [hS]; exact List.getElem_mem hn)).1
    have hlo := stop_le 1 0 (old ++ new)
    have hpush := fun P sn a b c => @J.push 20 E old new part k (Poss d 2 20) P O (view d 2 20) t ht hj hs (by rw [hS]; exact hn) (by rw [hS]; exact hpt) (by rw [hS]; exact hfit) (pad s) a b sn c
    simp only [hS] at hpush
    obtain ⟨p, hp⟩ : ∃ p, stop 1 0 (old ++ new) + part.length = p := ⟨_, rfl⟩
    rw [hp] at hx hpush
    rw [writesM] at hx
    by_cases h0 : SectM.wrote d ((2 + p : Nat) : Int) (BA s) = 0
    · rw [if_neg (by rw [h0]; simp)] at hx
      obtain ⟨e1, e2, e3⟩ := hpush (Poss (SectM.write d ((2 + p : Nat) : Int) (BA s)) 2 20) (view (SectM.write d ((2 + p : Nat) : Int) (BA s)) 2 20) (by rw [hs0]) (poss_write h0 (by omega) (by omega)) (view_write hg h0 (by omega) (by omega))
      have hSd : Side d (SectM.write d ((2 + p : Nat) : Int) (BA s)) 1 := ⟨SectM.write_good hg _ _, by rw [may_write h0, if_neg (by omega)], by rw [seen_write hg (by omega) h0, if_neg (by omega)], by rw [late_write h0]; exact Nat.le_refl _⟩
      have hl1 : (part ++ [pad s]).length = part.length + 1 := by simp
      by_cases hl : part.length + 1 < S.length
      · obtain ⟨f1, f2⟩ := e2 hl
        have ih := writes_ok hS ht hfit r (part ++ [pad s]) (SectM.write d ((2 + p : Nat) : Int) (BA s)) (by rw [hl1]; exact hr1) (by rw [hl1]; exact hl) e1 hSd.good f1 f2 x (by rw [hl1, show 2 + (stop 1 0 (old ++ new) + (part.length + 1)) = 2 + p + 1 by omega]; exact hx)
        refine ⟨⟨ih.1.good, ih.1.may2.trans hSd.may2, ih.1.seen2.trans hSd.seen2, ?_⟩, ih.2⟩
        have := ih.1.late
        have := hSd.late
        rw [List.length_cons]; omega
      · have hr2 : r = [] := by rw [hr1]; exact List.drop_eq_nil_of_le (by omega)
        rw [hr2, writesM] at hx
        subst hx
        rw [hr2]
        exact ⟨hSd, fun _ => e3 (by omega), fun h => absurd rfl h⟩
    · rw [if_pos h0, write_bad h0] at hx
      subst hx
      exact ⟨⟨hg, rfl, rfl, Nat.le_add_right _ _⟩, fun h => absurd h h0, fun _ => ⟨part, hj⟩⟩
theorem writes_left : ∀ (r : List (List UInt8)) (p : Nat) (d : DiskM), SectM.Good 24 d → d.left = -1 → p + r.length ≤ 24 → (∀ s ∈ r, s.length ≤ 64) → (writesM d p r).2 = 0 ∧ (writesM d p r).1.left = -1
  | [], _, _, _, hl, _, _ => ⟨rfl, hl⟩
  | s :: r, p, d, hg, hl, hp, hs => by
    rw [List.length_cons] at hp
    have h0 : SectM.wrote d (p : Int) (BA s) = 0 := (wrote_0 hg (by omega) (by rw [BA_size]; exact hs s List.mem_cons_self)).2 (by omega)
    rw [writesM, if_neg (by rw [h0]; simp)]
    refine writes_left r (p + 1) _ (SectM.write_good hg _ _) ?_ (by omega) (fun x hx => hs x (List.mem_cons_of_mem _ hx))
    unfold SectM.write SectM.burnt
    rw [if_pos h0, if_neg (by omega)]
    exact hl
/-- Append, on a log that stands. -/
theorem Norm.append {d : DiskM} {l : LogM} {all : List (List UInt8)} {safe : Nat} (h : Norm d l all safe) (t : List UInt8) :
    ((appendM d l t).2.2 = 0 ∧ Norm (appendM d l t).1 (appendM d l t).2.1 (all ++ [t]) safe ∧ l.at_ < (appendM d l t).2.1.at_) ∨
    (((appendM d l t).2.2 = 2 ∨ (appendM d l t).2.2 = 8) ∧ (appendM d l t).1 = d ∧ (appendM d l t).2.1 = l) ∨
    ((appendM d l t).2.2 ≠ 0 ∧ d.left ≠ -1 ∧ Fell (appendM d l t).1 (appendM d l t).2.1 fun ts => safe ≤ ts.length ∧ ts <+: all) := by
  have hat := h.at_le
  have hla := h.late
  obtain ⟨old, new, k, O, hj, hs, h1, h2, h3, h4⟩ := h.is
  unfold appendM
  rw [if_neg (by rw [h.fell]; simp)]
  by_cases ht : 300 < t.length
  · rw [if_pos ht]; exact Or.inr (Or.inl ⟨Or.inl rfl, rfl, rfl⟩)
  rw [if_neg ht, h.size, h.frm, h1, h2]
  have hp := sectors_pos l.ep ((old ++ new).length : Nat) t
  have hform := fun s hs => (sectors_form (e := l.ep) (q := ((old ++ new).length : Nat)) (t := t) (s := s) hs).1
  obtain ⟨S, hS⟩ : ∃ S, sectors l.ep ((old ++ new).length : Nat) t = S := ⟨_, rfl⟩
  rw [hS] at hp hform
  rw [hS]
  by_cases hf : 20 < stop 1 0 (old ++ new) + S.length
  · rw [if_pos hf]; exact Or.inr (Or.inl ⟨Or.inr rfl, rfl, rfl⟩)
  rw [if_neg hf]
  have hw := writes_ok hS (t := t) (k := k) (O := O) (by omega) (by omega) S [] d rfl (by show 0 < S.length; omega) (by simp) h.good hj hs _ rfl
  have hwl := writes_left S (2 + stop 1 0 (old ++ new)) d h.good
  rw [List.length_nil, Nat.add_zero] at hw
  obtain ⟨⟨d', e⟩, hx⟩ : ∃ x, writesM d (2 + stop 1 0 (old ++ new)) S = x := ⟨_, rfl⟩
  rw [hx] at hw hwl ⊢
  obtain ⟨w1, w2, w3⟩ := hw
  dsimp only at w1 w2 w3 hwl ⊢
  by_cases h0 : e = 0
  · subst h0
    rw [if_neg (by simp)]
    obtain ⟨j1, j2⟩ := w2 rfl
    refine Or.inl ⟨rfl, ⟨w1.good, by first | exact h.frm | rfl, by first | exact h.size | rfl, h.fell, h.e0, h.e1, ?_, fun b hb => ?_, ?_, old, new ++ [⟨l.ep, t⟩], k, O, j1, j2, ?_, ?_, ?_, h4⟩, ?_⟩
    · have := w1.late
      show d'.late.length ≤ stop 1 0 (old ++ new) + S.length
      omega
    · exact h.anc b (w1.may2 ▸ hb)
    · have := h.see
      rw [← w1.may2, ← w1.seen2] at this
      exact this
    · show stop 1 0 (old ++ new) + S.length = _
      rw [← List.append_assoc, stop_append _ _ (old ++ new), Nat.zero_add, ← hS]
      rfl
    · show (old ++ new).length + 1 = _
      rw [← List.append_assoc, @List.length_append _ (old ++ new)]; rfl
    · rw [h3, ← List.append_assoc, List.map_append (l₁ := old ++ new)]; rfl
    · show stop 1 0 (old ++ new) < stop 1 0 (old ++ new) + S.length
      omega
  · rw [if_pos h0]
    obtain ⟨part', j1⟩ := w3 h0
    refine Or.inr (Or.inr ⟨h0, ?_, w1.good, by unfold fallL; simp [h0], ?_, l.ep, h.e0, h.e1, fun b hb => ⟨l.ep, h.anc b (w1.may2 ▸ hb), Int.le_refl _, h.e1⟩, fun C c1 c2 c3 => ?_⟩)
    · intro hl
      exact h0 (hwl hl (by omega) hform).1
    · have := w1.late
      show d'.late.length ≤ 100
      omega
    · obtain ⟨m, m1, m2, m3⟩ := j1.told c1 c2 c3
      refine ⟨_, m3, ?_, ?_⟩
      · rw [List.length_map, List.length_append, List.length_take]; omega
      · rw [h3, List.map_append, List.map_append, List.map_take]
        exact (List.prefix_append_right_inj _).2 (List.take_prefix _ _)
end WalM
end Go.Proofs.YtpeaefeoogcepaaDoor
