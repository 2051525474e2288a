/- Redo and undo over plain lists. -/
import Derived.Test.YtfmgncfikaefhaaMem
namespace Go.Proofs.Ytfmgncfikaefhaa

structure RecM where
  kind : Int
  tx : Int
  item : Int
  old : Int
  new : Int
structure PageM where
  value : Int
  lsn : Int

namespace RedoM
/-- What Check keeps. -/
structure St where
  over : Int → Bool
  owner : Int → Int
  value : Int → Int
def St.init : St := ⟨fun _ => false, fun _ => 0, fun _ => 0⟩
def err (s : St) (r : RecM) : Int :=
  if r.tx < 0 ∨ 12 ≤ r.tx ∨ r.item < 0 ∨ 20 ≤ r.item then 1
  else if s.over r.tx = true then 4
  else if r.kind = 1 then (if (s.owner r.item ≠ 0 ∧ s.owner r.item ≠ r.tx + 1) ∨ r.old ≠ s.value r.item then 4 else 0)
  else if r.kind = 2 ∨ r.kind = 3 then (if r.item ≠ 0 ∨ r.old ≠ 0 ∨ r.new ≠ 0 then 4 else 0)
  else 4
def upI {α : Type} (f : Int → α) (t : Int) (v : α) : Int → α := fun i => if i = t then v else f i
theorem upI_same {α : Type} (f : Int → α) (t : Int) (v : α) : upI f t v t = v := by simp [upI]
theorem upI_other {α : Type} (f : Int → α) {t i : Int} (v : α) (h : i ≠ t) : upI f t v i = f i := by simp [upI, h]
def next (s : St) (r : RecM) : St :=
  if r.kind = 1 then ⟨s.over, upI s.owner r.item (r.tx + 1), upI s.value r.item r.new⟩
  else ⟨upI s.over r.tx true, fun i => if s.owner i = r.tx + 1 then 0 else s.owner i, s.value⟩
def go : St → List RecM → Int
  | _, [] => 0
  | s, r :: l => if err s r ≠ 0 then err s r else go (next s r) l
def check (l : List RecM) : Int := if 400 < l.length then 2 else go St.init l
def run (s : St) (l : List RecM) : St := l.foldl next s
theorem go_append (s : St) (l m : List RecM) (h : go s l = 0) : go s (l ++ m) = go (run s l) m := by
  induction l generalizing s with
  | nil => rfl
  | cons r l ih =>
    unfold go at h
    split at h
    · rename_i h2; exact absurd h h2
    · rename_i h2
      rw [List.cons_append, go, if_neg h2]
      exact ih _ h
theorem go_left {s : St} {l m : List RecM} (h : go s (l ++ m) = 0) : go s l = 0 := by
  induction l generalizing s with
  | nil => rfl
  | cons r l ih =>
    rw [List.cons_append, go] at h
    split at h
    · rename_i h2; exact absurd h h2
    · rename_i h2
      rw [go, if_neg h2]
      exact ih h
theorem go_snoc {s : St} {l : List RecM} {r : RecM} (h : go s (l ++ [r]) = 0) : go s l = 0 ∧ err (run s l) r = 0 := by
  have h1 := go_left h
  refine ⟨h1, ?_⟩
  rw [go_append _ _ _ h1, go] at h
  split at h
  · rename_i h2; exact absurd h h2
  · rename_i h2
    exact Classical.byContradiction h2
theorem run_append (s : St) (l m : List RecM) : run s (l ++ m) = run (run s l) m := List.foldl_append ..

/-- The pages that all changes leave, one behind another: n records stand ahead. -/
def lastF (p : Int → PageM) : Nat → List RecM → Int → PageM
  | _, [] => p
  | n, r :: l => lastF (if r.kind = 1 then upI p r.item ⟨r.new, (n : Int) + 1⟩ else p) (n + 1) l
def zero : Int → PageM := fun _ => ⟨0, 0⟩
def last (l : List RecM) : Int → PageM := lastF zero 0 l
theorem lastF_append (p : Int → PageM) (n : Nat) (l m : List RecM) : lastF p n (l ++ m) = lastF (lastF p n l) (n + l.length) m := by
  induction l generalizing p n with
  | nil => rfl
  | cons r l ih =>
    rw [List.cons_append, lastF, lastF, ih]
    rw [List.length_cons, show n + (l.length + 1) = n + 1 + l.length by omega]
theorem last_snoc (l : List RecM) (r : RecM) : last (l ++ [r]) = if r.kind = 1 then upI (last l) r.item ⟨r.new, (l.length : Int) + 1⟩ else last l := by
  unfold last
  rw [lastF_append, lastF, lastF, Nat.zero_add]

/-- What every prefix of a right list bears. -/
structure Inv (l : List RecM) : Prop where
  value : ∀ i, (run St.init l).value i = (last l i).value
  over : ∀ t, (run St.init l).over t = true ↔ ∃ r, r ∈ l ∧ r.tx = t ∧ r.kind ≠ 1
  owner : ∀ r, r ∈ l → r.kind = 1 → (run St.init l).over r.tx = false → (run St.init l).owner r.item = r.tx + 1
  tx : ∀ r, r ∈ l → 0 ≤ r.tx ∧ r.tx < 12
  item : ∀ r, r ∈ l → 0 ≤ r.item ∧ r.item < 20
  kind : ∀ r, r ∈ l → r.kind = 1 ∨ r.kind = 2 ∨ r.kind = 3
theorem err_zero {s : St} {r : RecM} (h : err s r = 0) : (0 ≤ r.tx ∧ r.tx < 12 ∧ 0 ≤ r.item ∧ r.item < 20) ∧ s.over r.tx = false ∧
    ((r.kind = 1 ∧ (s.owner r.item = 0 ∨ s.owner r.item = r.tx + 1) ∧ r.old = s.value r.item) ∨ ((r.kind = 2 ∨ r.kind = 3) ∧ r.kind ≠ 1 ∧ r.item = 0 ∧ r.old = 0 ∧ r.new = 0)) := by
  unfold err at h
  split at h
  · omega
  · rename_i h1
    split at h
    · omega
    · rename_i h2
      have h2' : s.over r.tx = false := by simpa using h2
      split at h
      · rename_i h3
        split at h
        · omega
        · rename_i h4
          exact ⟨by omega, h2', Or.inl ⟨h3, by omega, by omega⟩⟩
      · rename_i h3
        split at h
        · rename_i h4
          split at h
          · omega
          · exact ⟨by omega, h2', Or.inr ⟨h4, h3, by omega, by omega, by omega⟩⟩
        · omega
theorem inv_nil : Inv [] := ⟨fun _ => rfl, fun t => ⟨fun h => (by cases h), fun ⟨r, h, _⟩ => by simp at h⟩, fun r h => by simp at h, fun r h => by simp at h, fun r h => by simp at h, fun r h => by simp at h⟩
theorem inv_snoc {l : List RecM} {r : RecM} (h : Inv l) (he : err (run St.init l) r = 0) : Inv (l ++ [r]) := by
  obtain ⟨hr, hov, hk⟩ := err_zero he
  have hrun : run St.init (l ++ [r]) = next (run St.init l) r := by rw [run_append]; rfl
  have hmem : ∀ x, x ∈ l ++ [r] → x ∈ l ∨ x = r := fun x hx => by
    rcases List.mem_append.1 hx with h | h
    · exact Or.inl h
    · exact Or.inr (by simpa using h)
  refine ⟨fun i => ?_, fun t => ?_, fun x hx hk1 ho => ?_, fun x hx => ?_, fun x hx => ?_, fun x hx => ?_⟩
  · rw [hrun, last_snoc]
    unfold next
    split
    · by_cases e : i = r.item
      · subst e; dsimp only; rw [upI_same, upI_same]
      · dsimp only; rw [upI_other _ _ e, upI_other _ _ e]; exact h.value i
    · exact h.value i
  · rw [hrun]
    unfold next
    split
    · rename_i h1
      rw [h.over t]
      refine ⟨fun ⟨x, hx, ht, hn⟩ => ⟨x, List.mem_append_left _ hx, ht, hn⟩, fun ⟨x, hx, ht, hn⟩ => ?_⟩
      rcases hmem x hx with h2 | rfl
      · exact ⟨x, h2, ht, hn⟩
      · exact absurd h1 hn
    · rename_i h1
      by_cases e : t = r.tx
      · subst e
        simp only [upI_same, true_iff]
        exact ⟨r, by simp, rfl, h1⟩
      · simp only [upI_other _ _ e]
        rw [h.over t]
        refine ⟨fun ⟨x, hx, ht, hn⟩ => ⟨x, List.mem_append_left _ hx, ht, hn⟩, fun ⟨x, hx, ht, hn⟩ => ?_⟩
        rcases hmem x hx with h2 | rfl
        · exact ⟨x, h2, ht, hn⟩
        · exact absurd ht.symm e
  · rw [hrun] at ho ⊢
    unfold next at ho ⊢
    rcases hk with ⟨h1, hown, _⟩ | ⟨_, h1, _⟩
    · rw [if_pos h1] at ho ⊢
      simp only at ho ⊢
      rcases hmem x hx with h2 | rfl
      · by_cases e : x.item = r.item
        · rw [e, upI_same]
          have h3 := h.owner x h2 hk1 ho
          rw [e] at h3
          have := h.tx x h2
          omega
        · rw [upI_other _ _ e]
          exact h.owner x h2 hk1 ho
      · rw [upI_same]
    · rw [if_neg h1] at ho ⊢
      simp only at ho ⊢
      rcases hmem x hx with h2 | rfl
      · have e : x.tx ≠ r.tx := by
          intro e
          rw [e, upI_same] at ho
          cases ho
        rw [upI_other _ _ e] at ho
        have h3 := h.owner x h2 hk1 ho
        rw [h3, if_neg (by omega)]
      · exact absurd hk1 h1
  · rcases hmem x hx with h2 | rfl
    · exact h.tx x h2
    · omega
  · rcases hmem x hx with h2 | rfl
    · exact h.item x h2
    · omega
  · rcases hmem x hx with h2 | rfl
    · exact h.kind x h2
    · rcases hk with ⟨h1, _⟩ | ⟨h1, _⟩
      · exact Or.inl h1
      · exact Or.inr h1
theorem list_snoc_ind {α : Type} {P : List α → Prop} (h0 : P []) (h1 : ∀ l a, P l → P (l ++ [a])) : ∀ l, P l := by
  intro l
  have h : ∀ n (l : List α), l.length = n → P l := by
    intro n
    induction n with
    | zero => intro l hl; rw [List.eq_nil_of_length_eq_zero hl]; exact h0
    | succ n ih =>
      intro l hl
      have hne : l ≠ [] := by rintro rfl; simp at hl
      rw [← List.dropLast_concat_getLast hne]
      exact h1 _ _ (ih _ (by rw [List.length_dropLast]; omega))
  exact h l.length l rfl
theorem inv_of (l : List RecM) (h : go St.init l = 0) : Inv l := by
  induction l using list_snoc_ind with
  | h0 => exact inv_nil
  | h1 l r ih =>
    obtain ⟨h1, h2⟩ := go_snoc h
    exact inv_snoc (ih h1) h2

/-- The redo pass from pages p on. -/
def redoF (p : Int → PageM) : Nat → List RecM → Int → PageM
  | _, [] => p
  | n, r :: l => redoF (if r.kind = 1 ∧ (p r.item).lsn < (n : Int) + 1 then upI p r.item ⟨r.new, (n : Int) + 1⟩ else p) (n + 1) l
def redo (l : List RecM) (p : Int → PageM) : Int → PageM := redoF p 0 l
theorem redoF_append (p : Int → PageM) (n : Nat) (l m : List RecM) : redoF p n (l ++ m) = redoF (redoF p n l) (n + l.length) m := by
  induction l generalizing p n with
  | nil => rfl
  | cons r l ih =>
    rw [List.cons_append, redoF, redoF, ih]
    rw [List.length_cons, show n + (l.length + 1) = n + 1 + l.length by omega]
theorem redo_snoc (l : List RecM) (r : RecM) (p : Int → PageM) : redo (l ++ [r]) p = if r.kind = 1 ∧ (redo l p r.item).lsn < (l.length : Int) + 1 then upI (redo l p) r.item ⟨r.new, (l.length : Int) + 1⟩ else redo l p := by
  unfold redo
  rw [redoF_append, redoF, redoF, Nat.zero_add]
theorem last_le (l : List RecM) : ∀ i, (last l i).lsn ≤ (l.length : Int) := by
  induction l using list_snoc_ind with
  | h0 => intro i; exact Int.le_refl 0
  | h1 l r ih =>
    intro i
    rw [last_snoc, List.length_append]
    simp only [List.length_cons, List.length_nil]
    have := ih i
    split
    · by_cases e : i = r.item
      · subst e; rw [upI_same]; simp
      · rw [upI_other _ _ e]; omega
    · omega
theorem last_ge (l : List RecM) : ∀ i, 0 ≤ (last l i).lsn := by
  induction l using list_snoc_ind with
  | h0 => intro i; exact Int.le_refl 0
  | h1 l r ih =>
    intro i
    rw [last_snoc]
    split
    · by_cases e : i = r.item
      · subst e; rw [upI_same]; simp only; omega
      · rw [upI_other _ _ e]; exact ih i
    · exact ih i
theorem redo_is (p : Int → PageM) (hp : ∀ i, 0 ≤ (p i).lsn) (l : List RecM) : ∀ i, redo l p i = if (last l i).lsn ≤ (p i).lsn then p i else last l i := by
  induction l using list_snoc_ind with
  | h0 =>
    intro i
    show p i = _
    have hc : (last [] i).lsn ≤ (p i).lsn := hp i
    rw [if_pos hc]
  | h1 l r ih =>
    intro i
    have hle := last_le l i
    rw [redo_snoc, last_snoc]
    by_cases hk : r.kind = 1
    · rw [if_pos hk]
      by_cases e : i = r.item
      · subst e
        rw [upI_same]
        have hi := ih r.item
        by_cases hA : (last l r.item).lsn ≤ (p r.item).lsn
        · rw [if_pos hA] at hi
          rw [hi]
          by_cases hc : (p r.item).lsn < (l.length : Int) + 1
          · rw [if_pos ⟨hk, hc⟩, if_neg (by simp only; omega), upI_same]
          · rw [if_neg (fun h => hc h.2), if_pos (by simp only; omega), hi]
        · rw [if_neg hA] at hi
          rw [hi, if_pos ⟨hk, by omega⟩, if_neg (by simp only; omega), upI_same]
      · rw [upI_other _ _ e, ← ih i]
        split
        · rw [upI_other _ _ e]
        · rfl
    · rw [if_neg hk, if_neg (fun h => hk h.1)]
      exact ih i
theorem last_take (l : List RecM) (i : Int) : ∀ m, last (l.take m) i = last l i ∨ (last (l.take m) i).lsn < (last l i).lsn := by
  induction l using list_snoc_ind with
  | h0 => intro m; left; simp
  | h1 l r ih =>
    intro m
    by_cases hm : m ≤ l.length
    · rw [List.take_append_of_le_length hm]
      have hle := last_le (l.take m) i
      rw [List.length_take] at hle
      rw [last_snoc]
      split
      · by_cases e : i = r.item
        · subst e; right; rw [upI_same]; simp only; omega
        · rw [upI_other _ _ e]; exact ih m
      · exact ih m
    · left
      rw [List.take_of_length_le (by simp; omega)]
/-- Pages with some of the changes. -/
def pagesF (at_ : Int → Int) (p : Int → PageM) : Nat → List RecM → Int → PageM
  | _, [] => p
  | n, r :: l => pagesF at_ (if r.kind = 1 ∧ (n : Int) < at_ r.item then upI p r.item ⟨r.new, (n : Int) + 1⟩ else p) (n + 1) l
def pages (l : List RecM) (at_ : Int → Int) : Int → PageM := pagesF at_ zero 0 l
theorem pagesF_append (at_ : Int → Int) (p : Int → PageM) (n : Nat) (l m : List RecM) : pagesF at_ p n (l ++ m) = pagesF at_ (pagesF at_ p n l) (n + l.length) m := by
  induction l generalizing p n with
  | nil => rfl
  | cons r l ih =>
    rw [List.cons_append, pagesF, pagesF, ih]
    rw [List.length_cons, show n + (l.length + 1) = n + 1 + l.length by omega]
theorem pages_snoc (l : List RecM) (r : RecM) (at_ : Int → Int) : pages (l ++ [r]) at_ = if r.kind = 1 ∧ (l.length : Int) < at_ r.item then upI (pages l at_) r.item ⟨r.new, (l.length : Int) + 1⟩ else pages l at_ := by
  unfold pages
  rw [pagesF_append, pagesF, pagesF, Nat.zero_add]
theorem pages_is (l : List RecM) (at_ : Int → Int) (i : Int) : pages l at_ i = last (l.take (at_ i).toNat) i := by
  induction l using list_snoc_ind with
  | h0 => simp; rfl
  | h1 l r ih =>
    rw [pages_snoc]
    by_cases hm : (at_ i).toNat ≤ l.length
    · rw [List.take_append_of_le_length hm, ← ih]
      split
      · rename_i h
        by_cases e : i = r.item
        · subst e; omega
        · rw [upI_other _ _ e]
      · rfl
    · rw [List.take_of_length_le (l := l ++ [r]) (by simp; omega), last_snoc]
      rw [List.take_of_length_le (by omega)] at ih
      by_cases hk : r.kind = 1
      · rw [if_pos hk]
        by_cases e : i = r.item
        · subst e
          rw [if_pos ⟨hk, by omega⟩, upI_same, upI_same]
        · rw [upI_other _ _ e, ← ih]
          split
          · rw [upI_other _ _ e]
          · rfl
      · rw [if_neg hk, if_neg (fun h => hk h.1)]
        exact ih
/-- Whichever pages were there, the redo pass leaves the same. -/
theorem redo_pages (l : List RecM) (at_ : Int → Int) : redo l (pages l at_) = last l := by
  funext i
  rw [redo_is _ (fun i => by rw [pages_is]; exact last_ge _ _) l i]
  split
  · rename_i h
    rw [pages_is] at h ⊢
    rcases last_take l i (at_ i).toNat with h1 | h1
    · exact h1
    · omega
  · rfl
theorem redo_last (l : List RecM) : redo l (last l) = last l := by
  funext i
  rw [redo_is _ (last_ge l) l i]
  split <;> rfl

def won (l : List RecM) (t : Int) : Bool := l.any fun r => decide (r.tx = t) && !decide (r.kind = 1)
theorem won_iff (l : List RecM) (t : Int) : won l t = true ↔ ∃ r, r ∈ l ∧ r.tx = t ∧ r.kind ≠ 1 := by
  unfold won
  simp only [List.any_eq_true, Bool.and_eq_true, decide_eq_true_eq, Bool.not_eq_true', decide_eq_false_iff_not]
structure U where
  out : List RecM
  pg : Int → PageM
  lo : Int → Bool
def back (u : U) (r : RecM) : RecM := ⟨1, r.tx, r.item, (u.pg r.item).value, r.old⟩
def undoStep (w : Int → Bool) (u : U) (r : RecM) : U :=
  if w r.tx = true then u else ⟨u.out ++ [back u r], upI u.pg r.item ⟨r.old, (u.out.length : Int) + 1⟩, upI u.lo r.tx true⟩
/-- All of l undone from its end on, in what u stands at. -/
def undo (w : Int → Bool) (u : U) : List RecM → U
  | [] => u
  | r :: l => undoStep w (undo w u l) r
theorem undo_append (w : Int → Bool) (u : U) (l m : List RecM) : undo w u (l ++ m) = undo w (undo w u m) l := by
  induction l with
  | nil => rfl
  | cons r l ih => rw [List.cons_append, undo, undo, ih]
def endR (t : Nat) : RecM := ⟨3, (t : Int), 0, 0, 0⟩
def endsTo (lo : Int → Bool) (k : Nat) (out : List RecM) : List RecM := out ++ ((List.range k).filter fun (t : Nat) => lo (t : Int)).map endR
theorem endsTo_succ (lo : Int → Bool) (k : Nat) (out : List RecM) : endsTo lo (k + 1) out = if lo (k : Int) = true then endsTo lo k out ++ [endR k] else endsTo lo k out := by
  unfold endsTo
  rw [List.range_succ, List.filter_append, List.map_append]
  by_cases h : lo (k : Int) = true
  · rw [if_pos h]; simp [h]
  · rw [if_neg h]; simp [h]
def undone (l : List RecM) (p : Int → PageM) : U := undo (won l) ⟨l, redo l p, fun _ => false⟩ l
def recOut (l : List RecM) (p : Int → PageM) : List RecM := endsTo (undone l p).lo 12 (undone l p).out
def recPg (l : List RecM) (p : Int → PageM) : Int → PageM := (undone l p).pg

/-- How undoing stands: of l (right as it is) the part q at the end is undone. -/
structure UInv (l q : List RecM) (u : U) : Prop where
  ok : go St.init u.out = 0
  over : (run St.init u.out).over = (run St.init l).over
  owner : (run St.init u.out).owner = (run St.init l).owner
  pg : u.pg = last u.out
  pre : ∃ x, u.out = l ++ x
  mem : ∀ x, x ∈ u.out → x ∈ l ∨ (x.kind = 1 ∧ u.lo x.tx = true)
  lo : ∀ t, u.lo t = true → won l t = false ∧ 0 ≤ t ∧ t < 12
  got : ∀ r, r ∈ q → won l r.tx = false → u.lo r.tx = true
theorem undo_inv {l : List RecM} (hl : go St.init l = 0) (p : Int → PageM) (hp : redo l p = last l) : ∀ q, (∀ r, r ∈ q → r ∈ l) → UInv l q (undo (won l) ⟨l, redo l p, fun _ => false⟩ q)
  | [], _ => ⟨hl, rfl, rfl, hp, ⟨[], by simp [undo]⟩, fun x hx => Or.inl hx, fun t h => by simp [undo] at h, fun r h => by simp at h⟩
  | r :: q, hq => by
    have ih := undo_inv hl p hp q (fun x hx => hq x (by simp [hx]))
    have hI := inv_of l hl
    rw [undo]
    generalize undo (won l) ⟨l, redo l p, fun _ => false⟩ q = u at *
    have hrl := hq r (by simp)
    unfold undoStep
    split
    · rename_i hw
      exact ⟨ih.ok, ih.over, ih.owner, ih.pg, ih.pre, ih.mem, ih.lo, fun x hx hw2 => by
        rcases List.mem_cons.1 hx with rfl | h
        · rw [hw] at hw2; cases hw2
        · exact ih.got x h hw2⟩
    · rename_i hw
      have hw' : won l r.tx = false := by simpa using hw
      have hk : r.kind = 1 := Classical.byContradiction fun h => hw ((won_iff l r.tx).2 ⟨r, hrl, rfl, h⟩)
      have hov : (run St.init l).over r.tx = false := by
        cases h : (run St.init l).over r.tx with
        | false => rfl
        | true => exact absurd ((won_iff l r.tx).2 ((hI.over r.tx).1 h)) hw
      have hown := hI.owner r hrl hk hov
      have htx := hI.tx r hrl
      have hit := hI.item r hrl
      have hIu := inv_of u.out ih.ok
      have he : err (run St.init u.out) (back u r) = 0 := by
        unfold err back
        dsimp only
        rw [if_neg (by omega), ih.over, hov, if_neg (by simp), if_pos rfl, ih.owner, hown, hIu.value, ← ih.pg, if_neg (by simp)]
      have hrun : run St.init (u.out ++ [back u r]) = next (run St.init u.out) (back u r) := by rw [run_append]; rfl
      have hnext : next (run St.init u.out) (back u r) = ⟨(run St.init u.out).over, upI (run St.init u.out).owner r.item (r.tx + 1), upI (run St.init u.out).value r.item r.old⟩ := by
        unfold next back; rw [if_pos rfl]
      refine ⟨?_, ?_, ?_, ?_, ?_, fun x hx => ?_, fun t ht => ?_, fun x hx hw2 => ?_⟩
      · show go St.init (u.out ++ [back u r]) = 0
        rw [go_append _ _ _ ih.ok, go, he, if_neg (by simp)]; rfl
      · show (run St.init (u.out ++ [back u r])).over = _
        rw [hrun, hnext]; exact ih.over
      · show (run St.init (u.out ++ [back u r])).owner = _
        rw [hrun, hnext]
        simp only
        rw [ih.owner]
        funext i
        by_cases e : i = r.item
        · subst e; rw [upI_same, hown]
        · rw [upI_other _ _ e]
      · show upI u.pg r.item _ = last (u.out ++ [back u r])
        rw [last_snoc, if_pos (show (back u r).kind = 1 from rfl), ← ih.pg]; rfl
      · obtain ⟨x, hx⟩ := ih.pre
        exact ⟨x ++ [back u r], by show u.out ++ [back u r] = _; rw [hx, List.append_assoc]⟩
      · show x ∈ l ∨ (x.kind = 1 ∧ upI u.lo r.tx true x.tx = true)
        have hx' : x ∈ u.out ++ [back u r] := hx
        rcases List.mem_append.1 hx' with h | h
        · rcases ih.mem x h with h2 | ⟨h2, h3⟩
          · exact Or.inl h2
          · refine Or.inr ⟨h2, ?_⟩
            by_cases e : x.tx = r.tx
            · rw [e, upI_same]
            · rw [upI_other _ _ e]; exact h3
        · have : x = back u r := by simpa using h
          subst this
          exact Or.inr ⟨rfl, by show upI u.lo r.tx true r.tx = true; rw [upI_same]⟩
      · have ht' : upI u.lo r.tx true t = true := ht
        by_cases e : t = r.tx
        · subst e; exact ⟨hw', htx⟩
        · rw [upI_other _ _ e] at ht'; exact ih.lo t ht'
      · show upI u.lo r.tx true x.tx = true
        by_cases e : x.tx = r.tx
        · rw [e, upI_same]
        · rw [upI_other _ _ e]
          rcases List.mem_cons.1 hx with rfl | h
          · exact absurd rfl e
          · exact ih.got x h hw2
/-- The ends behind. -/
theorem ends_inv {l q : List RecM} {u : U} (h : UInv l q u) (hl : go St.init l = 0) : ∀ k, k ≤ 12 → go St.init (endsTo u.lo k u.out) = 0 ∧ last (endsTo u.lo k u.out) = u.pg ∧
    (∀ t, (k : Int) ≤ t → (run St.init (endsTo u.lo k u.out)).over t = (run St.init l).over t)
  | 0, _ => ⟨by unfold endsTo; simpa using h.ok, by unfold endsTo; simpa using h.pg.symm, fun t _ => by unfold endsTo; simp [h.over]⟩
  | k + 1, hk => by
    obtain ⟨h1, h2, h3⟩ := ends_inv h hl k (by omega)
    have hI := inv_of l hl
    rw [endsTo_succ]
    split
    · rename_i hlo
      obtain ⟨hw, _, _⟩ := h.lo _ hlo
      have hov : (run St.init l).over (k : Int) = false := by
        cases h : (run St.init l).over (k : Int) with
        | false => rfl
        | true => rw [(won_iff l _).2 ((hI.over _).1 h)] at hw; cases hw
      have he : err (run St.init (endsTo u.lo k u.out)) (endR k) = 0 := by
        unfold err endR
        dsimp only
        rw [if_neg (by omega), h3 _ (Int.le_refl _), hov, if_neg (by simp), if_neg (by omega), if_pos (by omega), if_neg (by omega)]
      refine ⟨?_, ?_, fun t ht => ?_⟩
      · rw [go_append _ _ _ h1, go, he, if_neg (by simp)]; rfl
      · rw [last_snoc, if_neg (by unfold endR; simp)]; exact h2
      · rw [run_append]
        show (next _ (endR k)).over t = _
        unfold next
        rw [if_neg (by unfold endR; simp)]
        simp only
        rw [upI_other _ _ (by unfold endR; simp only; omega)]
        exact h3 t (by omega)
    · exact ⟨h1, h2, fun t ht => h3 t (by omega)⟩
theorem undo_won {w : Int → Bool} {u : U} : ∀ q, (∀ r, r ∈ q → w r.tx = true) → undo w u q = u
  | [], _ => rfl
  | r :: q, h => by
    rw [undo, undo_won q (fun x hx => h x (by simp [hx]))]
    unfold undoStep
    rw [if_pos (h r (by simp))]
/-- What is made of a right log: right, and made once more it stays. -/
theorem recover_again {l : List RecM} (hl : go St.init l = 0) (p : Int → PageM) (hp : redo l p = last l) :
    go St.init (recOut l p) = 0 ∧ recOut (recOut l p) (recPg l p) = recOut l p ∧ recPg (recOut l p) (recPg l p) = recPg l p := by
  have hU := undo_inv hl p hp l (fun r h => h)
  obtain ⟨h1, h2, h3⟩ := ends_inv hU hl 12 (Nat.le_refl _)
  have hpg : recPg l p = last (recOut l p) := h2.symm
  have hI := inv_of l hl
  have hwon : ∀ r, r ∈ recOut l p → won (recOut l p) r.tx = true := by
    intro r hr
    have hin : ∀ x, x ∈ l → x ∈ recOut l p := fun x hx => by
      obtain ⟨y, hy⟩ := hU.pre
      unfold recOut endsTo undone
      rw [hy]
      exact List.mem_append_left _ (List.mem_append_left _ hx)
    have hend : ∀ t, (undone l p).lo t = true → won (recOut l p) t = true := fun t ht => by
      obtain ⟨_, h4, h5⟩ := hU.lo t ht
      rw [won_iff]
      refine ⟨endR t.toNat, List.mem_append_right _ (List.mem_map.2 ⟨t.toNat, List.mem_filter.2 ⟨by simp; omega, ?_⟩, rfl⟩), ?_, ?_⟩
      · rw [show ((t.toNat : Nat) : Int) = t by omega]; exact ht
      · unfold endR; simp only; omega
      · unfold endR; simp
    have hr' : r ∈ (undone l p).out ++ ((List.range 12).filter fun (t : Nat) => (undone l p).lo (t : Int)).map endR := hr
    rcases List.mem_append.1 hr' with h | h
    · rcases hU.mem r h with h4 | ⟨_, h4⟩
      · cases hw : won l r.tx with
        | true =>
          obtain ⟨x, hx, hxt, hxk⟩ := (won_iff l r.tx).1 hw
          exact (won_iff _ _).2 ⟨x, hin x hx, hxt, hxk⟩
        | false => exact hend _ (hU.got r h4 hw)
      · exact hend _ h4
    · obtain ⟨t, ht, rfl⟩ := List.mem_map.1 h
      exact hend _ (List.mem_filter.1 ht).2
  have hun : undone (recOut l p) (recPg l p) = ⟨recOut l p, recPg l p, fun _ => false⟩ := by
    unfold undone
    rw [undo_won _ hwon, hpg, redo_last]
  refine ⟨h1, ?_, ?_⟩
  · show endsTo (undone (recOut l p) (recPg l p)).lo 12 (undone (recOut l p) (recPg l p)).out = _
    rw [hun]
    simp [endsTo]
  · show (undone (recOut l p) (recPg l p)).pg = _
    rw [hun]

/-- What those who won wrote last. -/
def wantF (w : Int → Bool) (f : Int → Int) : List RecM → Int → Int
  | [] => f
  | r :: l => wantF w (if r.kind = 1 ∧ w r.tx = true then upI f r.item r.new else f) l
theorem wantF_append (w : Int → Bool) (f : Int → Int) (l m : List RecM) : wantF w f (l ++ m) = wantF w (wantF w f l) m := by
  induction l generalizing f with
  | nil => rfl
  | cons r l ih => rw [List.cons_append, wantF, wantF, ih]
def want (w : Int → Bool) (l : List RecM) : Int → Int := wantF w (fun _ => 0) l
theorem want_snoc (w : Int → Bool) (l : List RecM) (r : RecM) : want w (l ++ [r]) = if r.kind = 1 ∧ w r.tx = true then upI (want w l) r.item r.new else want w l := by
  unfold want
  rw [wantF_append, wantF, wantF]
/-- What the first of those who lost found. -/
def firstOld (w : Int → Bool) (i : Int) : List RecM → Option Int
  | [] => none
  | r :: l => if w r.tx = false ∧ r.item = i then some r.old else firstOld w i l
theorem firstOld_append (w : Int → Bool) (i : Int) (l m : List RecM) : firstOld w i (l ++ m) = match firstOld w i l with
    | some o => some o
    | none => firstOld w i m := by
  induction l with
  | nil => rfl
  | cons r l ih =>
    rw [List.cons_append, firstOld, firstOld]
    by_cases h : w r.tx = false ∧ r.item = i
    · rw [if_pos h, if_pos h]
    · rw [if_neg h, if_neg h]; exact ih
theorem firstOld_some {w : Int → Bool} {i o : Int} : ∀ {l : List RecM}, firstOld w i l = some o → ∃ r, r ∈ l ∧ w r.tx = false ∧ r.item = i
  | [], h => by cases h
  | r :: l, h => by
    rw [firstOld] at h
    split at h
    · rename_i h2; exact ⟨r, by simp, h2.1, h2.2⟩
    · obtain ⟨x, h1, h2, h3⟩ := firstOld_some h
      exact ⟨x, by simp [h1], h2, h3⟩
theorem undo_value (w : Int → Bool) (u : U) (i : Int) : ∀ l, ((undo w u l).pg i).value = match firstOld w i l with
    | some o => o
    | none => (u.pg i).value
  | [] => rfl
  | r :: l => by
    have ih := undo_value w u i l
    rw [undo, firstOld]
    unfold undoStep
    cases hw : w r.tx with
    | true => rw [if_pos rfl, if_neg (by simp)]; exact ih
    | false =>
      rw [if_neg (by simp)]
      dsimp only
      by_cases e : r.item = i
      · rw [if_pos ⟨rfl, e⟩, e, upI_same]
      · rw [if_neg (fun h => e h.2), upI_other _ _ (fun h => e h.symm)]; exact ih
theorem keeps_inv (w : Int → Bool) (q : List RecM) (hq : go St.init q = 0) (hw : ∀ r, r ∈ q → r.kind ≠ 1 → w r.tx = true) : ∀ i, match firstOld w i q with
    | some o => o = want w q i
    | none => (last q i).value = want w q i := by
  induction q using list_snoc_ind with
  | h0 => intro i; rfl
  | h1 q r ih =>
    intro i
    obtain ⟨h1, h2⟩ := go_snoc hq
    have ih := ih h1 (fun x hx => hw x (List.mem_append_left _ hx)) i
    have hI := inv_of q h1
    obtain ⟨_, hov, hk⟩ := err_zero h2
    rw [firstOld_append, want_snoc, last_snoc]
    rcases hk with ⟨hk1, hown, hold⟩ | ⟨_, hk1, _⟩
    · by_cases e : i = r.item
      · subst e
        cases hwr : w r.tx with
        | true =>
          rw [if_pos ⟨hk1, rfl⟩, upI_same, if_pos hk1, upI_same]
          cases hf : firstOld w r.item q with
          | none => simp [firstOld, hwr]
          | some o =>
            exfalso
            obtain ⟨x, hx, hxw, hxi⟩ := firstOld_some hf
            have hxk : x.kind = 1 := Classical.byContradiction fun h => by
              rw [hw x (List.mem_append_left _ hx) h] at hxw; cases hxw
            have hxo : (run St.init q).over x.tx = false := by
              cases h : (run St.init q).over x.tx with
              | false => rfl
              | true =>
                obtain ⟨y, hy, hyt, hyk⟩ := (hI.over x.tx).1 h
                have := hw y (List.mem_append_left _ hy) hyk
                rw [hyt, hxw] at this; cases this
            have h3 := hI.owner x hx hxk hxo
            rw [hxi] at h3
            have htx := hI.tx x hx
            have : x.tx = r.tx := by omega
            rw [this, hwr] at hxw; cases hxw
        | false =>
          rw [if_neg (by simp)]
          cases hf : firstOld w r.item q with
          | none =>
            rw [hf] at ih
            simp only [firstOld, hwr, and_self, if_true]
            rw [hold, hI.value]; exact ih
          | some o => rw [hf] at ih; exact ih
      · have hl : (if r.kind = 1 then upI (last q) r.item ⟨r.new, (q.length : Int) + 1⟩ else last q) i = last q i := by rw [if_pos hk1, upI_other _ _ e]
        have hwn : (if r.kind = 1 ∧ w r.tx = true then upI (want w q) r.item r.new else want w q) i = want w q i := by
          split
          · rw [upI_other _ _ e]
          · rfl
        rw [hl, hwn]
        have hfn : firstOld w i [r] = none := by
          rw [firstOld, if_neg (fun h => e h.2.symm)]; rfl
        rw [hfn]
        cases hf : firstOld w i q with
        | none => rw [hf] at ih; exact ih
        | some o => rw [hf] at ih; exact ih
    · have hwr := hw r (by simp) hk1
      rw [if_neg hk1, if_neg (fun h => hk1 h.1)]
      have hfn : firstOld w i [r] = none := by
        rw [firstOld, if_neg (fun h => by rw [hwr] at h; cases h.1)]; rfl
      rw [hfn]
      cases hf : firstOld w i q with
      | none => rw [hf] at ih; exact ih
      | some o => rw [hf] at ih; exact ih
/-- What committed is there, what did not is as it was before. -/
theorem recover_keeps {l : List RecM} (hl : go St.init l = 0) (p : Int → PageM) (hp : redo l p = last l) (i : Int) : (recPg l p i).value = want (won l) l i := by
  have h := keeps_inv (won l) l hl (fun r hr hk => (won_iff l r.tx).2 ⟨r, hr, rfl, hk⟩) i
  unfold recPg undone
  rw [undo_value]
  cases hf : firstOld (won l) i l with
  | none => rw [hf] at h; dsimp only; rw [hp]; exact h
  | some o => rw [hf] at h; exact h
end RedoM
end Go.Proofs.Ytfmgncfikaefhaa
