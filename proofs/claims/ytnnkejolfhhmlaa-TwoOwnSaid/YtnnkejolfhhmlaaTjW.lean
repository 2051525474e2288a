/- Tarjan's walker in memory. -/
import Derived.Test.YtnnkejolfhhmlaaGrB
import Derived.Test.YtnnkejolfhhmlaaGrOR
namespace Go.Proofs.Ytnnkejolfhhmlaa
section
open Go.RowKit Go.Lib

structure TjSt where
  when : Nat → Nat
  low : Nat → Nat
  stack : List Nat
  parts : List (List Nat)
  time : Nat
namespace TjM
def start : TjSt := ⟨fun _ => 0, fun _ => 0, [], [], 0⟩
def sortN (l : List Nat) : List Nat := l.mergeSort fun x y => decide (x ≤ y)
def enter (s : TjSt) (k : Nat) : TjSt := ⟨upd s.when k (s.time + 1), upd s.low k (s.time + 1), s.stack ++ [k], s.parts, s.time + 1⟩
def lower (s : TjSt) (k v : Nat) : TjSt := { s with low := upd s.low k (min (s.low k) v) }
def leave (s : TjSt) (k : Nat) : TjSt := if s.low k = s.when k then { s with parts := s.parts ++ [sortN (s.stack.drop (s.stack.idxOf k))], stack := s.stack.take (s.stack.idxOf k) } else s
/-- A visit of k from a state (none: to its end; some i: behind i of the next nodes). -/
inductive Run (n : Nat) (l : List EgM) : TjSt → Nat → Option Nat → TjSt → Prop
  | start (s : TjSt) (k : Nat) : Run n l s k (some 0) (enter s k)
  | white {s t r : TjSt} {k i : Nat} (h : Run n l s k (some i) t) (hi : i < (GrM.next n l k).length) (h0 : t.when (GrM.next n l k)[i] = 0) (hr : Run n l t (GrM.next n l k)[i] none r) : Run n l s k (some (i + 1)) (lower r k (r.low (GrM.next n l k)[i]))
  | on {s t : TjSt} {k i : Nat} (h : Run n l s k (some i) t) (hi : i < (GrM.next n l k).length) (h0 : t.when (GrM.next n l k)[i] ≠ 0) (hs : (GrM.next n l k)[i] ∈ t.stack) : Run n l s k (some (i + 1)) (lower t k (t.when (GrM.next n l k)[i]))
  | off {s t : TjSt} {k i : Nat} (h : Run n l s k (some i) t) (hi : i < (GrM.next n l k).length) (h0 : t.when (GrM.next n l k)[i] ≠ 0) (hs : (GrM.next n l k)[i] ∉ t.stack) : Run n l s k (some (i + 1)) t
  | fin {s t : TjSt} {k : Nat} (h : Run n l s k (some (GrM.next n l k).length) t) : Run n l s k none (leave t k)

def R (n : Nat) (l : List EgM) (a b : Nat) : Prop := a = b ∨ GrM.Path n l a b
section
variable {n : Nat} {l : List EgM}
theorem R.refl (a : Nat) : R n l a a := Or.inl rfl
theorem R.trans {a b c : Nat} (h : R n l a b) (k : R n l b c) : R n l a c := by
  rcases h with rfl | h
  · exact k
  · rcases k with rfl | k
    · exact Or.inr h
    · exact Or.inr (h.trans k)
theorem R.edge {a b : Nat} (hb : b < n) (h : GrM.E l a b = true) : R n l a b := Or.inr (.one hb h)
/-- What is closed under edges is closed under paths. -/
theorem R.closed {A : Nat → Prop} (hA : ∀ x, A x → ∀ y, y < n → GrM.E l x y = true → A y) {a b : Nat} (ha : A a) (h : R n l a b) : A b := by
  rcases h with rfl | h
  · exact ha
  · induction h with
    | one h1 h2 => exact hA _ ha _ h1 h2
    | more _ h1 h2 ih => exact hA _ ih _ h1 h2
def white (n : Nat) (s : TjSt) : Nat := ((List.range n).filter fun x => decide (s.when x = 0)).length
structure Inv (n : Nat) (l : List EgM) (G : List Nat) (s : TjSt) : Prop where
  tm : ∀ x, s.when x ≤ s.time
  ct : s.time + white n s = n
  inj : ∀ x y, s.when x = s.when y → s.when x ≠ 0 → x = y
  vis : ∀ x, s.when x ≠ 0 → x < n
  st : ∀ x ∈ s.stack, s.when x ≠ 0
  srt : s.stack.Pairwise fun a b => s.when a < s.when b
  gr : ∀ g ∈ G, g ∈ s.stack
  cl : ∀ x, s.when x ≠ 0 → x ∉ G → ∀ y, y < n → GrM.E l x y = true → s.when y ≠ 0
  up : ∀ x ∈ s.stack, ∀ y ∈ s.stack, s.when x ≤ s.when y → R n l x y
  dn : ∀ y ∈ s.stack, ∃ g ∈ G, s.when g ≤ s.when y ∧ R n l y g
  off : ∀ x, s.when x ≠ 0 → x ∉ s.stack → ∀ y, y < n → GrM.E l x y = true → y ∉ s.stack
  nd : s.parts.flatten.Nodup
  pm : ∀ x, x ∈ s.parts.flatten ↔ s.when x ≠ 0 ∧ x ∉ s.stack
  scc : ∀ p ∈ s.parts, p ≠ [] ∧ p.Pairwise (· < ·) ∧ ∀ a ∈ p, ∀ b, b < n → (b ∈ p ↔ R n l a b ∧ R n l b a)
theorem Inv.start : Inv n l [] start where
  tm := fun _ => Nat.le_refl _
  ct := by
    show 0 + ((List.range n).filter fun x => decide (0 = 0)).length = n
    have : (List.range n).filter (fun x => decide (0 = 0)) = List.range n := List.filter_eq_self.2 (fun _ _ => by simp)
    rw [this]; simp
  inj := fun _ _ _ h => absurd rfl h
  vis := fun _ h => absurd rfl h
  st := fun x h => by cases h
  srt := List.Pairwise.nil
  gr := fun x h => by cases h
  cl := fun _ h => absurd rfl h
  up := fun x h => by cases h
  dn := fun x h => by cases h
  off := fun _ h => absurd rfl h
  nd := List.nodup_nil
  pm := fun x => by simp [TjM.start]
  scc := fun p h => by cases h
variable {G : List Nat} {s t : TjSt} {k : Nat}
theorem Inv.lower (h : Inv n l G s) (k v : Nat) : Inv n l G (lower s k v) := ⟨h.tm, h.ct, h.inj, h.vis, h.st, h.srt, h.gr, h.cl, h.up, h.dn, h.off, h.nd, h.pm, h.scc⟩
theorem Inv.stnd (h : Inv n l G s) : s.stack.Nodup := by
  rw [List.nodup_iff_pairwise_ne]
  exact h.srt.imp (fun h e => by rw [e] at h; exact Nat.lt_irrefl _ h)
theorem white_enter (s : TjSt) (hk : k < n) (h0 : s.when k = 0) : white n s = white n (enter s k) + 1 := by
  unfold white
  have h1 : (List.range n).filter (fun x => decide (s.when x = 0)) = ((List.range n).filter fun x => decide ((enter s k).when x = 0) || decide (x = k)) := by
    refine List.filter_congr fun x _ => ?_
    show decide (s.when x = 0) = (decide (upd s.when k (s.time + 1) x = 0) || decide (x = k))
    by_cases e : x = k
    · subst e; simp [h0]
    · rw [upd_other _ _ e]; simp [e]
  rw [h1]
  have key : ∀ m, k < m → ((List.range m).filter fun x => decide ((enter s k).when x = 0) || decide (x = k)).length = ((List.range m).filter fun x => decide ((enter s k).when x = 0)).length + 1 := by
    intro m
    induction m with
    | zero => intro h; omega
    | succ m ih =>
      intro h
      rw [List.range_succ, List.filter_append, List.filter_append, List.length_append, List.length_append]
      by_cases e : k = m
      · subst e
        have hw : (enter s k).when k ≠ 0 := by show upd s.when k (s.time + 1) k ≠ 0; rw [upd_same]; omega
        have h2 : (List.range k).filter (fun x => decide ((enter s k).when x = 0) || decide (x = k)) = (List.range k).filter fun x => decide ((enter s k).when x = 0) :=
          List.filter_congr fun x hx => by
            have := List.mem_range.1 hx
            rw [decide_eq_false (show ¬ x = k by omega), Bool.or_false]
        rw [h2]
        simp [hw]
      · rw [ih (by omega)]
        have h3 : [m].filter (fun x => decide ((enter s k).when x = 0) || decide (x = k)) = [m].filter fun x => decide ((enter s k).when x = 0) := List.filter_congr fun x hx => by
          have : x = m := by simpa using hx
          rw [decide_eq_false (show ¬ x = k by omega), Bool.or_false]
        rw [h3]; omega
  exact key n hk
theorem Inv.enter (h : Inv n l G s) (hk : k < n) (h0 : s.when k = 0) (hG : ∀ g ∈ G, R n l g k) : Inv n l (k :: G) (enter s k) := by
  have hne : ∀ x, s.when x ≠ 0 → x ≠ k := fun x h e => h (by rw [e, h0])
  have hw : ∀ x, x ≠ k → (TjM.enter s k).when x = s.when x := fun x e => upd_other _ _ e
  have hwk : (TjM.enter s k).when k = s.time + 1 := upd_same _ _ _
  have hst : ∀ x, x ∈ (TjM.enter s k).stack ↔ x ∈ s.stack ∨ x = k := fun x => by
    show x ∈ s.stack ++ [k] ↔ _
    rw [List.mem_append, List.mem_singleton]
  have hsn : ∀ x ∈ s.stack, x ≠ k := fun x hx => hne x (h.st x hx)
  have hv : ∀ x, (TjM.enter s k).when x ≠ 0 ↔ s.when x ≠ 0 ∨ x = k := fun x => by
    by_cases e : x = k
    · subst e; rw [hwk]; simp
    · rw [hw x e]; simp [e]
  refine ⟨fun x => ?_, ?_, fun x y he hn => ?_, fun x hx => ?_, fun x hx => ?_, ?_, fun g hg => ?_, fun x hx hxG y hy he => ?_, fun x hx y hy hle => ?_, fun y hy => ?_, fun x hx hxs y hy he => ?_, h.nd, fun x => ?_, h.scc⟩
  · show _ ≤ s.time + 1
    by_cases e : x = k
    · rw [e, hwk]; exact Nat.le_refl _
    · rw [hw x e]; have := h.tm x; omega
  · have := h.ct
    rw [white_enter s hk h0] at this
    show s.time + 1 + _ = n
    omega
  · by_cases ex : x = k
    · by_cases ey : y = k
      · rw [ex, ey]
      · rw [ex, hwk, hw y ey] at he
        have := h.tm y; omega
    · by_cases ey : y = k
      · rw [ey, hwk, hw x ex] at he
        have := h.tm x; omega
      · rw [hw x ex, hw y ey] at he
        rw [hw x ex] at hn
        exact h.inj x y he hn
  · rcases (hv x).1 hx with hx | rfl
    · exact h.vis x hx
    · exact hk
  · rcases (hst x).1 hx with hx | rfl
    · exact (hv x).2 (Or.inl (h.st x hx))
    · exact (hv x).2 (Or.inr rfl)
  · show (s.stack ++ [k]).Pairwise _
    rw [List.pairwise_append]
    refine ⟨?_, by simp, fun a ha b hb => ?_⟩
    · refine h.srt.imp_of_mem ?_
      intro a b ha hb hab
      rw [hw a (hsn a ha), hw b (hsn b hb)]; exact hab
    · rw [List.mem_singleton] at hb; subst hb
      rw [hwk, hw a (hsn a ha)]
      have := h.tm a; omega
  · rcases List.mem_cons.1 hg with rfl | hg
    · exact (hst g).2 (Or.inr rfl)
    · exact (hst g).2 (Or.inl (h.gr g hg))
  · rw [List.mem_cons, not_or] at hxG
    rcases (hv x).1 hx with hx | e
    · exact (hv y).2 (Or.inl (h.cl x hx hxG.2 y hy he))
    · exact absurd e hxG.1
  · rcases (hst x).1 hx with hx1 | rfl
    · rcases (hst y).1 hy with hy1 | rfl
      · rw [hw x (hsn x hx1), hw y (hsn y hy1)] at hle
        exact h.up x hx1 y hy1 hle
      · obtain ⟨g, hg, _, hr⟩ := h.dn x hx1
        exact hr.trans (hG g hg)
    · rcases (hst y).1 hy with hy | rfl
      · rw [hwk, hw y (hsn y hy)] at hle
        have := h.tm y; omega
      · exact R.refl _
  · rcases (hst y).1 hy with hy | rfl
    · obtain ⟨g, hg, h1, h2⟩ := h.dn y hy
      refine ⟨g, List.mem_cons_of_mem _ hg, ?_, h2⟩
      rw [hw g (hsn g (h.gr g hg)), hw y (hsn y hy)]; exact h1
    · exact ⟨y, List.mem_cons_self, Nat.le_refl _, R.refl _⟩
  · have hxs2 : x ∉ s.stack ∧ x ≠ k := ⟨fun h => hxs ((hst x).2 (Or.inl h)), fun h => hxs ((hst x).2 (Or.inr h))⟩
    have hx2 : s.when x ≠ 0 := ((hv x).1 hx).resolve_right hxs2.2
    rw [hst, not_or]
    refine ⟨h.off x hx2 hxs2.1 y hy he, ?_⟩
    rintro rfl
    exact h.cl x hx2 (fun hg => hxs2.1 (h.gr x hg)) y hy he h0
  · show x ∈ s.parts.flatten ↔ _
    rw [h.pm x, hv, hst]
    constructor
    · rintro ⟨h1, h2⟩
      exact ⟨Or.inl h1, not_or.2 ⟨h2, hne x h1⟩⟩
    · rintro ⟨h1, h2⟩
      rw [not_or] at h2
      exact ⟨h1.resolve_right h2.2, h2.1⟩
theorem Inv.stack_len (h : Inv n l G s) (hn : n ≤ 60) : s.stack.length ≤ 60 := by
  have := List.Nodup.length_le_of_subset h.stnd (l₂ := List.range n) (fun x hx => List.mem_range.2 (h.vis x (h.st x hx)))
  rw [List.length_range] at this; omega
theorem flat_len : ∀ (ps : List (List Nat)), (∀ p ∈ ps, p ≠ []) → ps.length ≤ ps.flatten.length
  | [], _ => Nat.le_refl _
  | p :: r, h => by
    have ih := flat_len r (fun q hq => h q (List.mem_cons_of_mem _ hq))
    have : p.length ≠ 0 := fun e => h p List.mem_cons_self (List.eq_nil_of_length_eq_zero e)
    rw [List.length_cons, List.flatten_cons, List.length_append]
    omega
theorem Inv.parts_len (h : Inv n l G s) : s.parts.length ≤ n := by
  have h1 := flat_len s.parts (fun p hp => (h.scc p hp).1)
  have h2 := List.Nodup.length_le_of_subset h.nd (l₂ := List.range n) (fun x hx => List.mem_range.2 (h.vis x ((h.pm x).1 hx).1))
  rw [List.length_range] at h2; omega
/-- What a visit leaves. -/
structure Post (n : Nat) (l : List EgM) (G : List Nat) (s : TjSt) (k : Nat) (t : TjSt) : Prop where
  inv : Inv n l G t
  old : ∀ x, s.when x ≠ 0 → t.when x = s.when x ∧ t.low x = s.low x
  stk : ∃ a, t.stack = s.stack ++ a ∧ (∀ u ∈ a, s.when u = 0) ∧ ∀ u ∈ a, ∀ y ∈ s.stack, GrM.E l u y = true → t.low k ≤ t.when y
  new : s.time < t.when k
  ex : ∃ y, t.when y = t.low k ∧ R n l k y ∧ (y = k ∨ y ∈ t.stack)
/-- In the midst. -/
structure Mid (n : Nat) (l : List EgM) (G : List Nat) (s : TjSt) (k i : Nat) (t : TjSt) : Prop where
  inv : Inv n l (k :: G) t
  old : ∀ x, s.when x ≠ 0 → t.when x = s.when x ∧ t.low x = s.low x
  stk : ∃ a, t.stack = s.stack ++ k :: a ∧ (∀ u ∈ a, s.when u = 0) ∧ ∀ u ∈ a, ∀ y ∈ s.stack, GrM.E l u y = true → t.low k ≤ t.when y
  whk : t.when k = s.time + 1
  le : t.low k ≤ t.when k
  ex : ∃ y ∈ t.stack, t.when y = t.low k ∧ R n l k y
  fst : ∀ j (h : j < (GrM.next n l k).length), j < i → t.when (GrM.next n l k)[j] ≠ 0 ∧ ((GrM.next n l k)[j] ∈ s.stack → t.low k ≤ t.when (GrM.next n l k)[j])
theorem nextAt {i : Nat} (hi : i < (GrM.next n l k).length) : (GrM.next n l k)[i] < n ∧ GrM.E l k (GrM.next n l k)[i] = true := GrM.mem_next.1 (List.getElem_mem hi)
theorem Mid.start (h : Inv n l G s) (hk : k < n) (h0 : s.when k = 0) (hG : ∀ g ∈ G, R n l g k) : Mid n l G s k 0 (TjM.enter s k) where
  inv := h.enter hk h0 hG
  old := fun x hx => by
    have e : x ≠ k := fun e => hx (by rw [e, h0])
    exact ⟨upd_other _ _ e, upd_other _ _ e⟩
  stk := ⟨[], rfl, by simp, by simp⟩
  whk := upd_same _ _ _
  le := by
    show upd s.low k (s.time + 1) k ≤ upd s.when k (s.time + 1) k
    rw [upd_same, upd_same]; exact Nat.le_refl _
  ex := ⟨k, by show k ∈ s.stack ++ [k]; simp, by show upd s.when k (s.time + 1) k = upd s.low k (s.time + 1) k; rw [upd_same, upd_same], R.refl _⟩
  fst := fun j _ h => by omega
theorem Mid.lowOther (v : Nat) {x : Nat} (hx : x ≠ k) : (TjM.lower t k v).low x = t.low x := upd_other _ _ hx
theorem Mid.lowAt (t : TjSt) (k v : Nat) : (TjM.lower t k v).low k = min (t.low k) v := upd_same _ _ _
theorem Mid.white {r : TjSt} {i : Nat} (h : Mid n l G s k i t) (hs : Inv n l G s) (hk0 : s.when k = 0) (hi : i < (GrM.next n l k).length) (h0 : t.when (GrM.next n l k)[i] = 0) (hp : Post n l (k :: G) t (GrM.next n l k)[i] r) : Mid n l G s k (i + 1) (TjM.lower r k (r.low (GrM.next n l k)[i])) := by
  obtain ⟨hx1, hx2⟩ := nextAt hi
  obtain ⟨a, ha1, ha2, ha3⟩ := h.stk
  obtain ⟨b, hb1, hb2, hb3⟩ := hp.stk
  have hkw : t.when k ≠ 0 := by rw [h.whk]; omega
  have hxk : (GrM.next n l k)[i] ≠ k := fun e => hkw (by rw [← e]; exact h0)
  have hsn : ∀ x, s.when x ≠ 0 → x ≠ k := fun x hx e => hx (by rw [e, hk0])
  have hst : ∀ x, s.when x ≠ 0 → t.when x ≠ 0 := fun x hx => by rw [(h.old x hx).1]; exact hx
  have hrk := (hp.old k hkw).2
  have hrw := (hp.old k hkw).1
  have hlow := Mid.lowAt r k (r.low (GrM.next n l k)[i])
  refine ⟨hp.inv.lower _ _, fun x hx => ?_, ⟨a ++ b, ?_, fun u hu => ?_, fun u hu y hy he => ?_⟩, ?_, ?_, ?_, fun j hj hji => ?_⟩
  · obtain ⟨o1, o2⟩ := h.old x hx
    obtain ⟨p1, p2⟩ := hp.old x (hst x hx)
    exact ⟨p1.trans o1, (Mid.lowOther _ (hsn x hx)).trans (p2.trans o2)⟩
  · show r.stack = _
    rw [hb1, ha1]; simp
  · rcases List.mem_append.1 hu with hu | hu
    · exact ha2 u hu
    · have := hb2 u hu
      refine Classical.byContradiction fun hne => ?_
      exact hst u hne this
  · rw [hlow]
    show _ ≤ r.when y
    rw [hrk]
    have hy1 := hst y (hs.st y hy)
    rcases List.mem_append.1 hu with hu | hu
    · have := ha3 u hu y hy he
      rw [(hp.old y hy1).1]; omega
    · have := hb3 u hu y (by rw [ha1]; exact List.mem_append_left _ hy) he
      omega
  · show r.when k = _
    rw [hrw]; exact h.whk
  · rw [hlow]
    show _ ≤ r.when k
    rw [hrk, hrw]
    have := h.le; omega
  · rw [hlow, hrk]
    obtain ⟨y, hy1, hy2, hy3⟩ := h.ex
    have hyt := h.inv.st y hy1
    by_cases hle : t.low k ≤ r.low (GrM.next n l k)[i]
    · refine ⟨y, ?_, ?_, hy3⟩
      · show y ∈ r.stack
        rw [hb1]; exact List.mem_append_left _ hy1
      · show r.when y = _
        rw [(hp.old y hyt).1, hy2]; omega
    · obtain ⟨z, hz1, hz2, hz3⟩ := hp.ex
      rcases hz3 with rfl | hz3
      · exfalso
        have := hp.new
        have := h.le
        have := h.inv.tm k
        omega
      · refine ⟨z, hz3, ?_, (R.edge hx1 hx2).trans hz2⟩
        show r.when z = _
        rw [hz1]; omega
  · rw [hlow, hrk]
    show r.when _ ≠ 0 ∧ (_ → _ ≤ r.when _)
    by_cases e : j = i
    · subst e
      refine ⟨by have := hp.new; omega, fun hin => ?_⟩
      exact absurd h0 (hst _ (hs.st _ hin))
    · obtain ⟨f1, f2⟩ := h.fst j hj (by omega)
      rw [(hp.old _ f1).1]
      refine ⟨f1, fun hin => ?_⟩
      have := f2 hin; omega
theorem Mid.on {i : Nat} (h : Mid n l G s k i t) (hk0 : s.when k = 0) (hi : i < (GrM.next n l k).length) (h0 : t.when (GrM.next n l k)[i] ≠ 0) (hst : (GrM.next n l k)[i] ∈ t.stack) : Mid n l G s k (i + 1) (TjM.lower t k (t.when (GrM.next n l k)[i])) := by
  obtain ⟨hx1, hx2⟩ := nextAt hi
  obtain ⟨a, ha1, ha2, ha3⟩ := h.stk
  have hsn : ∀ x, s.when x ≠ 0 → x ≠ k := fun x hx e => hx (by rw [e, hk0])
  have hlow := Mid.lowAt t k (t.when (GrM.next n l k)[i])
  refine ⟨h.inv.lower _ _, fun x hx => ⟨(h.old x hx).1, (Mid.lowOther _ (hsn x hx)).trans (h.old x hx).2⟩, ⟨a, ha1, ha2, fun u hu y hy he => ?_⟩, h.whk, ?_, ?_, fun j hj hji => ?_⟩
  · rw [hlow]
    have := ha3 u hu y hy he
    show _ ≤ t.when y
    omega
  · rw [hlow]
    have := h.le
    show _ ≤ t.when k
    omega
  · rw [hlow]
    obtain ⟨y, hy1, hy2, hy3⟩ := h.ex
    by_cases hle : t.low k ≤ t.when (GrM.next n l k)[i]
    · exact ⟨y, hy1, by show t.when y = _; omega, hy3⟩
    · exact ⟨_, hst, by show t.when _ = _; omega, R.edge hx1 hx2⟩
  · rw [hlow]
    show t.when _ ≠ 0 ∧ (_ → _ ≤ t.when _)
    by_cases e : j = i
    · subst e; exact ⟨h0, fun _ => by omega⟩
    · obtain ⟨f1, f2⟩ := h.fst j hj (by omega)
      exact ⟨f1, fun hin => by have := f2 hin; omega⟩
theorem Mid.off {i : Nat} (h : Mid n l G s k i t) (hi : i < (GrM.next n l k).length) (h0 : t.when (GrM.next n l k)[i] ≠ 0) (hst : (GrM.next n l k)[i] ∉ t.stack) : Mid n l G s k (i + 1) t := by
  refine ⟨h.inv, h.old, h.stk, h.whk, h.le, h.ex, fun j hj hji => ?_⟩
  by_cases e : j = i
  · subst e
    refine ⟨h0, fun hin => ?_⟩
    obtain ⟨a, ha1, _⟩ := h.stk
    exact absurd (by rw [ha1]; exact List.mem_append_left _ hin) hst
  · exact h.fst j hj (by omega)
theorem sortN_perm (l : List Nat) : (sortN l).Perm l := List.mergeSort_perm _ _
theorem sortN_pair (l : List Nat) : (sortN l).Pairwise fun x y => x ≤ y := by
  have := List.pairwise_mergeSort (le := fun x y : Nat => decide (x ≤ y)) (fun a b c h1 h2 => by
      simp only [decide_eq_true_eq] at *; omega) (fun a b => by
      simp only [Bool.or_eq_true, decide_eq_true_eq]; omega) l
  exact this.imp (fun h => of_decide_eq_true h)
/-- The place of k. -/
theorem Mid.idx {i : Nat} (h : Mid n l G s k i t) : t.stack.idxOf k = s.stack.length ∧ t.stack.take s.stack.length = s.stack ∧ ∃ a, t.stack.drop s.stack.length = k :: a ∧ t.stack = s.stack ++ k :: a := by
  obtain ⟨a, ha1, ha2, _⟩ := h.stk
  have hk : k ∉ s.stack := fun hin => by
    have := h.inv.stnd
    rw [ha1] at this
    exact (List.nodup_append.1 this).2.2 k hin k List.mem_cons_self rfl
  refine ⟨?_, ?_, a, ?_, ha1⟩
  · rw [ha1, List.idxOf_append, if_neg hk]; simp
  · rw [ha1]; simp
  · rw [ha1]; simp
theorem Mid.fin (h : Mid n l G s k (GrM.next n l k).length t) (hs : Inv n l G s) (hk0 : s.when k = 0) (hk : k < n) (hG : ∀ g ∈ G, R n l g k) : Post n l G s k (TjM.leave t k) := by
  obtain ⟨hidx, htake, a, hdrop, hstk⟩ := h.idx
  obtain ⟨a', ha1, ha2, ha3⟩ := h.stk
  obtain rfl : a' = a := by
    have := ha1.symm.trans hstk
    simpa using this
  have hI := h.inv
  have hkw : t.when k ≠ 0 := by rw [h.whk]; omega
  have hst : ∀ x, s.when x ≠ 0 → t.when x ≠ 0 := fun x hx => by rw [(h.old x hx).1]; exact hx
  have hkE : ∀ y, y < n → GrM.E l k y = true → t.when y ≠ 0 ∧ (y ∈ s.stack → t.low k ≤ t.when y) := fun y hy he => by
    obtain ⟨j, hj, rfl⟩ := List.mem_iff_getElem.1 (GrM.mem_next.2 ⟨hy, he⟩)
    exact h.fst j hj hj
  have hsIn : ∀ x ∈ s.stack, x ∈ t.stack := fun x hx => by rw [hstk]; exact List.mem_append_left _ hx
  have hsub : ∀ g ∈ G, g ∈ s.stack := hs.gr
  have hcl : ∀ x, t.when x ≠ 0 → x ∉ G → ∀ y, y < n → GrM.E l x y = true → t.when y ≠ 0 := fun x hx hxG y hy he => by
    by_cases e : x = k
    · subst e; exact (hkE y hy he).1
    · exact hI.cl x hx (by rw [List.mem_cons, not_or]; exact ⟨e, hxG⟩) y hy he
  have hkS : k ∉ s.stack := fun hin => hs.st k hin hk0
  unfold TjM.leave
  by_cases hc : t.low k = t.when k
  · -- a part
    rw [if_pos hc, hidx, htake, hdrop]
    have hbelow : ∀ y ∈ s.stack, t.when y < t.when k := fun y hy => by
      have := hI.srt
      rw [hstk, List.pairwise_append] at this
      exact this.2.2 y hy k List.mem_cons_self
    have habove : ∀ y ∈ k :: a', t.when k ≤ t.when y := fun y hy => by
      rcases List.mem_cons.1 hy with rfl | hy
      · exact Nat.le_refl _
      · have := hI.srt
        rw [hstk, List.pairwise_append, List.pairwise_cons] at this
        exact Nat.le_of_lt (this.2.1.1 y hy)
    have hmt : ∀ x, x ∈ t.stack ↔ x ∈ s.stack ∨ x ∈ k :: a' := fun x => by rw [hstk, List.mem_append]
    have hdisj : ∀ x ∈ s.stack, x ∉ k :: a' := fun x hx hx2 => by
      have := hbelow x hx; have := habove x hx2; omega
    -- all of the new part come to k, and k to them
    have hmut : ∀ x ∈ k :: a', R n l k x ∧ R n l x k := fun x hx => by
      have hxt := (hmt x).2 (Or.inr hx)
      refine ⟨hI.up k ((hmt k).2 (Or.inr List.mem_cons_self)) x hxt (habove x hx), ?_⟩
      obtain ⟨g, hg, _, hr⟩ := hI.dn x hxt
      rcases List.mem_cons.1 hg with rfl | hg
      · exact hr
      · exact hr.trans (hG g hg)
    -- edges of the new part do not go below it
    have hout : ∀ x ∈ k :: a', ∀ y, y < n → GrM.E l x y = true → y ∉ s.stack ∧ t.when y ≠ 0 := fun x hx y hy he => by
      have hxw := hI.st x ((hmt x).2 (Or.inr hx))
      have hxG : x ∉ G := fun hg => hdisj x (hsub x hg) hx
      refine ⟨fun hin => ?_, hcl x hxw hxG y hy he⟩
      have hb := hbelow y hin
      rcases List.mem_cons.1 hx with rfl | hx
      · have := (hkE y hy he).2 hin; omega
      · have := ha3 x hx y hin he; omega
    have hclosed : ∀ x, (x ∈ k :: a' ∨ (t.when x ≠ 0 ∧ x ∉ t.stack)) → ∀ y, y < n → GrM.E l x y = true → (y ∈ k :: a' ∨ (t.when y ≠ 0 ∧ y ∉ t.stack)) := fun x hx y hy he => by
      rcases hx with hx | ⟨hx1, hx2⟩
      · obtain ⟨h1, h2⟩ := hout x hx y hy he
        by_cases hyt : y ∈ t.stack
        · exact Or.inl (((hmt y).1 hyt).resolve_left h1)
        · exact Or.inr ⟨h2, hyt⟩
      · exact Or.inr ⟨hI.cl x hx1 (fun hg => hx2 (hI.gr x hg)) y hy he, hI.off x hx1 hx2 y hy he⟩
    have hdone : ∀ x, (t.when x ≠ 0 ∧ x ∉ t.stack) → ∀ y, y < n → GrM.E l x y = true → (t.when y ≠ 0 ∧ y ∉ t.stack) := fun x hx y hy he =>
      ⟨hI.cl x hx.1 (fun hg => hx.2 (hI.gr x hg)) y hy he, hI.off x hx.1 hx.2 y hy he⟩
    have hmax : ∀ b, R n l k b → R n l b k → b ∈ k :: a' := fun b h1 h2 => by
      rcases R.closed (A := fun x => x ∈ k :: a' ∨ (t.when x ≠ 0 ∧ x ∉ t.stack)) hclosed (Or.inl List.mem_cons_self) h1 with hb | hb
      · exact hb
      · exact absurd ((hmt k).2 (Or.inr List.mem_cons_self)) (R.closed (A := fun x => t.when x ≠ 0 ∧ x ∉ t.stack) hdone hb h2).2
    have hmem : ∀ x, x ∈ sortN (k :: a') ↔ x ∈ k :: a' := fun x => (sortN_perm _).mem_iff
    have hnd : (k :: a').Nodup := by
      have := hI.stnd
      rw [hstk, List.nodup_append] at this
      exact this.2.1
    refine ⟨⟨hI.tm, hI.ct, hI.inj, hI.vis, fun x hx => hI.st x (hsIn x hx), ?_, hsub, hcl, fun x hx y hy hle => hI.up x (hsIn x hx) y (hsIn y hy) hle, fun y hy => ?_, fun x hx hxs y hy he => ?_, ?_, fun x => ?_, fun p hp => ?_⟩, h.old, ⟨[], by simp, by simp, by simp⟩, ?_, ⟨k, ?_, R.refl _, Or.inl rfl⟩⟩
    · have := hI.srt
      rw [hstk, List.pairwise_append] at this
      exact this.1
    · obtain ⟨g, hg, h1, h2⟩ := hs.dn y hy
      refine ⟨g, hg, ?_, h2⟩
      show t.when g ≤ t.when y
      rw [(h.old g (hs.st g (hsub g hg))).1, (h.old y (hs.st y hy)).1]; exact h1
    · dsimp only at hx hxs ⊢
      by_cases hxt : x ∈ t.stack
      · exact (hout x (((hmt x).1 hxt).resolve_left hxs) y hy he).1
      · exact fun hin => hI.off x hx hxt y hy he (hsIn y hin)
    · dsimp only
      rw [List.flatten_append, List.nodup_append]
      refine ⟨hI.nd, by simpa using (sortN_perm _).nodup_iff.2 hnd, fun x hx y hy => ?_⟩
      rintro rfl
      have h1 := (hI.pm x).1 hx
      have h2 : x ∈ sortN (k :: a') := by simpa using hy
      exact h1.2 ((hmt x).2 (Or.inr ((hmem x).1 h2)))
    · dsimp only
      rw [List.flatten_append, List.mem_append, hI.pm x]
      have e : x ∈ [sortN (k :: a')].flatten ↔ x ∈ k :: a' := by simp only [List.flatten_cons, List.flatten_nil, List.append_nil]; exact hmem x
      rw [e]
      constructor
      · rintro (⟨h1, h2⟩ | h1)
        · exact ⟨h1, fun hin => h2 (hsIn x hin)⟩
        · exact ⟨hI.st x ((hmt x).2 (Or.inr h1)), fun hin => hdisj x hin h1⟩
      · rintro ⟨h1, h2⟩
        by_cases hxt : x ∈ t.stack
        · exact Or.inr (((hmt x).1 hxt).resolve_left h2)
        · exact Or.inl ⟨h1, hxt⟩
    · dsimp only at hp
      rcases List.mem_append.1 hp with hp | hp
      · exact hI.scc p hp
      · rw [List.mem_singleton] at hp
        subst hp
        refine ⟨fun e => ?_, ?_, fun x hx b hb => ?_⟩
        · have := (hmem k).2 List.mem_cons_self
          rw [e] at this; cases this
        · have h1 := sortN_pair (k :: a')
          have h2 := List.nodup_iff_pairwise_ne.1 ((sortN_perm (k :: a')).nodup_iff.2 hnd)
          exact (h1.and h2).imp (fun h => Nat.lt_of_le_of_ne h.1 h.2)
        · rw [hmem] at hx ⊢
          obtain ⟨m1, m2⟩ := hmut x hx
          constructor
          · intro hb2
            obtain ⟨m3, m4⟩ := hmut b hb2
            exact ⟨m2.trans m3, m4.trans m1⟩
          · rintro ⟨m3, m4⟩
            exact hmax b (m1.trans m3) (m4.trans m2)
    · show s.time < t.when k
      rw [h.whk]; omega
    · exact hc.symm
  · rw [if_neg hc]
    have hlt : t.low k < t.when k := by have := h.le; omega
    obtain ⟨y0, hy1, hy2, hy3⟩ := h.ex
    obtain ⟨g0, hg0, hg1, hg2⟩ := hI.dn y0 hy1
    have hg0G : g0 ∈ G := by
      rcases List.mem_cons.1 hg0 with rfl | hg
      · omega
      · exact hg
    refine ⟨⟨hI.tm, hI.ct, hI.inj, hI.vis, hI.st, hI.srt, fun g hg => hI.gr g (List.mem_cons_of_mem _ hg), hcl, hI.up, fun y hy => ?_, hI.off, hI.nd, hI.pm, hI.scc⟩, h.old, ⟨k :: a', hstk, fun u hu => ?_, fun u hu y hy he => ?_⟩, ?_, ⟨y0, hy2, hy3, Or.inr hy1⟩⟩
    · obtain ⟨g, hg, h1, h2⟩ := hI.dn y hy
      rcases List.mem_cons.1 hg with rfl | hg
      · exact ⟨g0, hg0G, by omega, h2.trans (hy3.trans hg2)⟩
      · exact ⟨g, hg, h1, h2⟩
    · rcases List.mem_cons.1 hu with rfl | hu
      · exact hk0
      · exact ha2 u hu
    · rcases List.mem_cons.1 hu with rfl | hu
      · exact (hkE y (hs.vis y (hs.st y hy)) he).2 hy
      · exact ha3 u hu y hy he
    · rw [h.whk]; omega
/-- What a visit keeps. -/
theorem run_keeps {o : Option Nat} (h : Run n l s k o t) : ∀ G, Inv n l G s → s.when k = 0 → k < n → (∀ g ∈ G, R n l g k) → match (generalizing := false) o with | none => Post n l G s k t | some i => Mid n l G s k i t := by
  induction h with
  | start s k => exact fun G hI h0 hk hG => Mid.start hI hk h0 hG
  | @white s t r k i _ hi h0 _ ih1 ih2 =>
    intro G hI hk0 hk hG
    have hm := ih1 G hI hk0 hk hG
    dsimp only at hm ⊢
    have hx := nextAt hi
    exact hm.white hI hk0 hi h0 (ih2 (k :: G) hm.inv h0 hx.1 (fun g hg => by
      rcases List.mem_cons.1 hg with rfl | hg
      · exact R.edge hx.1 hx.2
      · exact (hG g hg).trans (R.edge hx.1 hx.2)))
  | on _ hi h0 hs ih =>
    intro G hI hk0 hk hG
    have hm := ih G hI hk0 hk hG
    dsimp only at hm ⊢
    exact hm.on hk0 hi h0 hs
  | off _ hi h0 hs ih =>
    intro G hI hk0 hk hG
    have hm := ih G hI hk0 hk hG
    dsimp only at hm ⊢
    exact hm.off hi h0 hs
  | fin _ ih =>
    intro G hI hk0 hk hG
    have hm := ih G hI hk0 hk hG
    dsimp only at hm ⊢
    exact hm.fin hI hk0 hk hG
end
end TjM
end
section
open Go.RowKit Go.Lib

theorem tj_far {w w1 : World} {base base' e e' size size' n n' : Nat} {row u : Value} {xs xs' : List Value} (hno : w.ownsRow base e size row n xs) (hg : w.grownBy w1 row.ownBlock) (hu : w.ownsRow base' e' size' u n' xs') (h1 : e' ≠ e) : w1.ownsRow base' e' size' u n' xs' :=
  hu.kept hg (by
    cases hb : u.ownBlock with
    | none => exact Or.inl rfl
    | some b =>
      refine Or.inr (fun e2 => ?_)
      rcases hu.2 with ⟨rfl, _⟩ | ⟨q, _, cur, rfl, _, hq, _⟩
      · simp [Value.ownBlock] at hb
      · rcases hno.2 with ⟨h5, _⟩ | ⟨q2, _, cur2, h5, _, hq2, _⟩
        · rw [h5] at e2; simp [Value.ownBlock] at e2
        · rw [h5] at e2
          simp only [Value.ownBlock, Option.some.injEq] at hb e2
          subst hb; subst e2
          rw [hq] at hq2
          injection hq2 with hq2
          injection hq2 with _ h6
          exact h1 h6)
/-- A beginning of an own row. -/
theorem ownsRow_front {w : World} {base e size g cap n : Nat} {xs : List Value} (h : w.ownsRow base e size (.slice (some ⟨g, 0, none⟩) n cap) n xs) {m : Nat} (hm : m ≤ n) : w.ownsRow base e size (.slice (some ⟨g, 0, none⟩) m cap) m (xs.take (m * size)) := by
  obtain ⟨h1, h2⟩ := h
  have hle : m * size ≤ n * size := Nat.mul_le_mul_right _ hm
  refine ⟨by rw [List.length_take]; omega, ?_⟩
  rcases h2 with ⟨h0, _⟩ | ⟨g', cap', cur, hv, hg, hh, hn, hcap, hsz, htake⟩
  · cases h0
  · cases hv
    refine .inr ⟨g, cap, cur, rfl, hg, hh, by omega, hcap, hsz, ?_⟩
    rw [← htake, List.take_take, Nat.min_eq_left hle]
/-- One row is new. -/
theorem Fam.fresh {w w' : World} {base N e size k n' : Nat} {v : Nat → Value} {m : Nat → Nat} {xs : Nat → List Value} {v' : Value} {ys : List Value} (h : Fam w base N e size v m xs)
    (ho : w'.ownsRow base e size v' n' ys) (hb : Below w.heap.size w w') (hat : ∀ g, v'.ownBlock = some g → w.heap.size ≤ g) : Fam w' base N e size (upd v k v') (upd m k n') (upd xs k ys) := by
  have hlt : ∀ i, i < N → ∀ g, (v i).ownBlock = some g → g < w.heap.size := fun i hi g hg => ((h.own i hi).lt g hg).2
  refine ⟨fun i hi => ?_, fun i j hi hj hij g h1 => ?_⟩
  · by_cases e : i = k
    · subst e; rw [upd_same, upd_same, upd_same]; exact ho
    · rw [upd_other _ _ e, upd_other _ _ e, upd_other _ _ e]
      exact ownsRow_below (h.own i hi) hb
  · by_cases ei : i = k
    · subst ei
      rw [upd_same] at h1
      rw [upd_other _ _ (Ne.symm hij)]
      intro h3
      have := hlt j hj g h3
      have := hat g h1
      omega
    · rw [upd_other _ _ ei] at h1
      by_cases ej : j = k
      · subst ej
        rw [upd_same]
        intro h3
        have := hlt i hi g h1
        have := hat g h3
        omega
      · rw [upd_other _ _ ej]
        exact h.apart i j hi hj hij g h1
/-- One row lies in the block in which it lay. -/
theorem Fam.turn {w : World} {base N e size k n' : Nat} {v : Nat → Value} {m : Nat → Nat} {xs : Nat → List Value} {v' : Value} {ys : List Value} (h : Fam w base N e size v m xs) (hk : k < N)
    (ho : w.ownsRow base e size v' n' ys) (hat : v'.ownBlock = (v k).ownBlock) : Fam w base N e size (upd v k v') (upd m k n') (upd xs k ys) := by
  refine ⟨fun i hi => ?_, fun i j hi hj hij g h1 => ?_⟩
  · by_cases e : i = k
    · subst e; rw [upd_same, upd_same, upd_same]; exact ho
    · rw [upd_other _ _ e, upd_other _ _ e, upd_other _ _ e]; exact h.own i hi
  · have hv : ∀ a, (upd v k v' a).ownBlock = (v a).ownBlock := fun a => by
      by_cases e : a = k
      · subst e; rw [upd_same]; exact hat
      · rw [upd_other _ _ e]
    rw [hv] at h1 ⊢
    exact h.apart i j hi hj hij g h1
theorem Fam.like {w : World} {base N e size : Nat} {v v' : Nat → Value} {m m' : Nat → Nat} {xs xs' : Nat → List Value} (h : Fam w base N e size v m xs) (h1 : ∀ i, i < N → v' i = v i) (h2 : ∀ i, i < N → m' i = m i) (h3 : ∀ i, i < N → xs' i = xs i) : Fam w base N e size v' m' xs' :=
  ⟨fun i hi => by rw [h1 i hi, h2 i hi, h3 i hi]; exact h.own i hi, fun i j hi hj hij g hg => by rw [h1 i hi] at hg; rw [h1 j hj]; exact h.apart i j hi hj hij g hg⟩

/-- All but three blocks is as it was. -/
structure Kept (A B W base : Nat) (w1 wr : World) : Prop where
  size : base ≤ wr.heap.size
  at_ : ∀ b, b < base → b ≠ A → b ≠ B → b ≠ W → wr.heap[b]? = w1.heap[b]?
section
variable {A B W base : Nat} {w1 wr w' : World}
theorem Kept.to (h : Kept A B W base w1 wr) (hs : wr.heap.size ≤ w'.heap.size) (hb : ∀ b, b < base → b ≠ A → b ≠ B → b ≠ W → w'.heap[b]? = wr.heap[b]?) : Kept A B W base w1 w' :=
  ⟨Nat.le_trans h.size hs, fun b h1 h2 h3 h4 => (hb b h1 h2 h3 h4).trans (h.at_ b h1 h2 h3 h4)⟩
theorem Kept.set (h : Kept A B W base w1 wr) {p : Addr} (hp : p.block = A ∨ p.block = B ∨ p.block = W) (u : Value) : Kept A B W base w1 (wr.setCell p u) :=
  h.to (by simp [World.setCell]) (fun b _ h2 h3 h4 => Below.heap_setCell _ _ _ _ (by omega))
theorem Kept.alloc (h : Kept A B W base w1 wr) (o : Obj) : Kept A B W base w1 (wr.alloc o) :=
  h.to (by simp) (fun b hb _ _ _ => Below.heap_alloc _ _ _ (Nat.lt_of_lt_of_le hb h.size))
theorem Kept.below (h : Kept A B W base w1 wr) (hb : Below wr.heap.size wr w') : Kept A B W base w1 w' :=
  h.to hb.size (fun b h1 _ _ _ => hb.block b (Nat.lt_of_lt_of_le h1 h.size))
theorem Kept.grown (h : Kept A B W base w1 wr) {row : Option Nat} (hg : wr.grownBy w' row) (hr : ∀ k, row = some k → base ≤ k) : Kept A B W base w1 w' :=
  h.to hg.size (fun b h1 _ _ _ => hg.block b (Nat.lt_of_lt_of_le h1 h.size) (fun e => by have := hr b e.symm; omega))
end

def TjM.row (s : TjSt) (i : Nat) : List Nat := if i = 100 then s.stack else (s.parts[i]?).getD []
def TjM.cells (n O A B : Nat) (sv pv : Value) (time : Nat) : List Value := [.slice (some ⟨O, 0, none⟩) n n, .slice (some ⟨A, 0, none⟩) n n, .slice (some ⟨B, 0, none⟩) n n, sv, pv, .int .i64 (time : Int)]
/-- What stays. -/
structure TjFix (n : Nat) (l : List EgM) (w w1 : World) (O A B W base : Nat) (a : Nat → Option Addr) (c : Nat → Nat) : Prop where
  lt : A < base ∧ B < base ∧ W < base
  le : w.heap.size ≤ A ∧ w.heap.size ≤ B ∧ w.heap.size ≤ W ∧ w.heap.size ≤ base
  ne : A ≠ B
  rows : ∀ wr, Kept A B W base w1 wr → ∀ k, k < n → wr.cell? ⟨O, k, none⟩ = some (.slice (a k) (GrM.next n l k).length (c k)) ∧ IntsAt wr (a k) (GrM.ints (GrM.next n l k))
structure TjMem (n : Nat) (w w1 : World) (O A B W base : Nat) (s : TjSt) (v : Nat → Value) (pv : Value) (wr : World) : Prop where
  below : Below w.heap.size w wr
  kept : Kept A B W base w1 wr
  blk : Blk wr W 108 (TjM.cells n O A B (v 100) pv s.time)
  wt : ITab wr A n (fun x => (s.when x : Int))
  lt : ITab wr B n (fun x => (s.low x : Int))
  fam : Fam wr base 101 3 1 v (fun i => (TjM.row s i).length) (fun i => intVals (GrM.ints (TjM.row s i)))
  tab : wr.ownsRow base 23 1 pv s.parts.length ((List.range s.parts.length).map v)
section
variable {n : Nat} {l : List EgM} {w w1 wr w' : World} {O A B W base : Nat} {a : Nat → Option Addr} {c : Nat → Nat} {s : TjSt} {v : Nat → Value} {pv : Value}
theorem TjMem.alloc (h : TjMem n w w1 O A B W base s v pv wr) (hf : TjFix n l w w1 O A B W base a c) (o : Obj) : TjMem n w w1 O A B W base s v pv (wr.alloc o) :=
  ⟨h.below.alloc (Nat.le_trans hf.le.2.2.2 h.kept.size) o, h.kept.alloc o, h.blk.alloc o, Blk.alloc h.wt o, Blk.alloc h.lt o, h.fam.alloc o, h.tab.alloc o⟩
theorem TjMem.drew (h : TjMem n w w1 O A B W base s v pv wr) : TjMem n w w1 O A B W base s v pv wr.drew :=
  ⟨h.below.drew, ⟨h.kept.size, h.kept.at_⟩, h.blk.drew, Blk.drew h.wt, Blk.drew h.lt, h.fam.drew, h.tab.drew⟩
theorem TjMem.drewN (h : TjMem n w w1 O A B W base s v pv wr) (q : Nat) : TjMem n w w1 O A B W base s v pv (wr.drewN q) :=
  ⟨⟨h.below.os, h.below.tape, h.below.output, h.below.size, h.below.block⟩, ⟨h.kept.size, h.kept.at_⟩, h.blk.drewN q, Blk.drewN h.wt q, Blk.drewN h.lt q, ⟨h.fam.own, h.fam.apart⟩, h.tab⟩
theorem TjMem.neA (h : TjMem n w w1 O A B W base s v pv wr) : W ≠ A := Blk.ne (t' := 3) h.blk h.wt (by decide)
theorem TjMem.neB (h : TjMem n w w1 O A B W base s v pv wr) : W ≠ B := Blk.ne (t' := 3) h.blk h.lt (by decide)
theorem TjMem.lowered (h : TjMem n w w1 O A B W base s v pv wr) (hf : TjFix n l w w1 O A B W base a c) (k x : Nat) : TjMem n w w1 O A B W base { s with low := upd s.low k x } v pv (wr.setCell ⟨B, k, none⟩ (.int .i64 (x : Int))) where
  below := h.below.setCell hf.le.2.1 _
  kept := h.kept.set (Or.inr (Or.inl rfl)) _
  blk := h.blk.other h.neB _
  wt := Blk.other h.wt hf.ne _
  lt := (h.lt.set k (x : Int)).congr (fun i _ => by unfold upd; dsimp only; split <;> rfl)
  fam := ⟨fun i hi => ownsRow_setCell_below (h.fam.own i hi) hf.lt.2.1 _, h.fam.apart⟩
  tab := ownsRow_setCell_below h.tab hf.lt.2.1 _
theorem TjMem.whened (h : TjMem n w w1 O A B W base s v pv wr) (hf : TjFix n l w w1 O A B W base a c) (k x : Nat) : TjMem n w w1 O A B W base { s with when := upd s.when k x } v pv (wr.setCell ⟨A, k, none⟩ (.int .i64 (x : Int))) where
  below := h.below.setCell hf.le.1 _
  kept := h.kept.set (Or.inl rfl) _
  blk := h.blk.other h.neA _
  wt := (h.wt.set k (x : Int)).congr (fun i _ => by unfold upd; dsimp only; split <;> rfl)
  lt := Blk.other h.lt (Ne.symm hf.ne) _
  fam := ⟨fun i hi => ownsRow_setCell_below (h.fam.own i hi) hf.lt.1 _, h.fam.apart⟩
  tab := ownsRow_setCell_below h.tab hf.lt.1 _
theorem TjMem.timed (h : TjMem n w w1 O A B W base s v pv wr) (hf : TjFix n l w w1 O A B W base a c) (x : Nat) : TjMem n w w1 O A B W base { s with time := x } v pv (wr.setCell ⟨W, 5, none⟩ (.int .i64 (x : Int))) where
  below := h.below.setCell hf.le.2.2.1 _
  kept := h.kept.set (Or.inr (Or.inr rfl)) _
  blk := h.blk.set 5 _
  wt := Blk.other h.wt (Ne.symm h.neA) _
  lt := Blk.other h.lt (Ne.symm h.neB) _
  fam := ⟨fun i hi => ownsRow_setCell_below (h.fam.own i hi) hf.lt.2.2 _, h.fam.apart⟩
  tab := ownsRow_setCell_below h.tab hf.lt.2.2 _
/-- The stack has grown. -/
theorem TjMem.pushed (h : TjMem n w w1 O A B W base s v pv wr) (hf : TjFix n l w w1 O A B W base a c) (hp : s.parts.length ≤ 100) {k : Nat} {sv : Value} (ho : w'.ownsRow base 3 1 sv (s.stack.length + 1) (intVals (GrM.ints (s.stack ++ [k])))) (hg : wr.grownBy w' (v 100).ownBlock) (hat : sv.ownBlock = (v 100).ownBlock ∨ sv.ownBlock = some wr.heap.size) :
    TjMem n w w1 O A B W base { s with stack := s.stack ++ [k] } (upd v 100 sv) pv (w'.setCell ⟨W, 3, none⟩ sv) := by
  have ho100 := h.fam.own 100 (by omega)
  have hrow : ∀ q, (v 100).ownBlock = some q → base ≤ q := fun q hq => (ho100.lt q hq).1
  have hk := h.kept.grown hg hrow
  have hA : some A ≠ (v 100).ownBlock := fun e => by have := hrow A e.symm; have := hf.lt.1; omega
  have hB : some B ≠ (v 100).ownBlock := fun e => by have := hrow B e.symm; have := hf.lt.2.1; omega
  have hW : some W ≠ (v 100).ownBlock := fun e => by have := hrow W e.symm; have := hf.lt.2.2; omega
  have bW := h.blk.grown hg (Ne.symm hW)
  have bA : ITab w' A n _ := Blk.grown h.wt hg (Ne.symm hA)
  have bB : ITab w' B n _ := Blk.grown h.lt hg (Ne.symm hB)
  have hF := Fam.append h.fam (k := 100) (by omega) ho hg hat
  have hT := tj_far ho100 hg h.tab (by decide)
  refine ⟨(h.below.grown hg (Nat.le_trans hf.le.2.2.2 h.kept.size) (fun q hq => Nat.le_trans hf.le.2.2.2 (hrow q hq))).setCell hf.le.2.2.1 _, hk.set (Or.inr (Or.inr rfl)) _, ?_, Blk.other bA (Ne.symm h.neA) _, Blk.other bB (Ne.symm h.neB) _, ?_, ?_⟩
  · have := bW.set 3 sv
    rw [upd_same]
    exact this
  · refine ⟨fun i hi => ownsRow_setCell_below ?_ hf.lt.2.2 _, hF.apart⟩
    have := hF.own i hi
    by_cases e : i = 100
    · subst e
      rw [upd_same, upd_same, upd_same] at this
      rw [upd_same]
      show w'.ownsRow _ _ _ _ (s.stack ++ [k]).length _
      rw [List.length_append, List.length_singleton]
      exact this
    · rw [upd_other _ _ e, upd_other _ _ e, upd_other _ _ e] at this
      rw [upd_other _ _ e]
      have h2 : TjM.row { s with stack := s.stack ++ [k] } i = TjM.row s i := by unfold TjM.row; rw [if_neg e, if_neg e]
      rw [h2]; exact this
  · refine ownsRow_setCell_below (a := ⟨W, 3, none⟩) ?_ hf.lt.2.2 _
    have e : (List.range s.parts.length).map (upd v 100 sv) = (List.range s.parts.length).map v := List.map_congr_left (fun i hi => upd_other _ _ (by have := List.mem_range.1 hi; omega))
    show w'.ownsRow _ _ _ _ s.parts.length ((List.range s.parts.length).map (upd v 100 sv))
    rw [e]; exact hT
/-- A part is laid by: its row was made (w2), the table of the parts has grown (w'). -/
theorem TjMem.parted (h : TjMem n w w1 O A B W base s v pv wr) (hf : TjFix n l w w1 O A B W base a c) (hp : s.parts.length < 100) {w2 : World} {p : List Nat} {nv pv' : Value} (hb : Below wr.heap.size wr w2) (ho : w2.ownsRow base 3 1 nv p.length (intVals (GrM.ints p))) (hn : ∀ g, nv.ownBlock = some g → wr.heap.size ≤ g)
    (hg : w2.grownBy w' pv.ownBlock) (ht : w'.ownsRow base 23 1 pv' (s.parts.length + 1) ((List.range s.parts.length).map v ++ [nv])) :
    TjMem n w w1 O A B W base { s with parts := s.parts ++ [p] } (upd v s.parts.length nv) pv' (w'.setCell ⟨W, 4, none⟩ pv') := by
  have hT := ownsRow_below h.tab hb
  have hrow : ∀ q, pv.ownBlock = some q → base ≤ q := fun q hq => (h.tab.lt q hq).1
  have hk2 := h.kept.below hb
  have hk := hk2.grown hg hrow
  have hF2 := Fam.fresh h.fam (k := s.parts.length) ho hb hn
  have hne : ∀ {b t C}, b < base → Blk w2 b t C → Blk w' b t C := fun hb hB => Blk.grown hB hg (fun e => by have := hrow _ e; omega)
  have bW := hne hf.lt.2.2 (h.blk.after hb)
  have bA : ITab w' A n _ := hne hf.lt.1 (Blk.after h.wt hb)
  have bB : ITab w' B n _ := hne hf.lt.2.1 (Blk.after h.lt hb)
  refine ⟨((h.below.trans (hb.mono h.below.size)).grown hg (Nat.le_trans hf.le.2.2.2 hk2.size) (fun q hq => Nat.le_trans hf.le.2.2.2 (hrow q hq))).setCell hf.le.2.2.1 _, hk.set (Or.inr (Or.inr rfl)) _, ?_, Blk.other bA (Ne.symm h.neA) _, Blk.other bB (Ne.symm h.neB) _, ?_, ?_⟩
  · have := bW.set 4 pv'
    rw [upd_other _ _ (by omega)]
    exact this
  · refine ⟨fun i hi => ownsRow_setCell_below ?_ hf.lt.2.2 _, hF2.apart⟩
    have hi2 := tj_far hT hg (hF2.own i hi) (by decide)
    by_cases e : i = s.parts.length
    · subst e
      rw [upd_same, upd_same, upd_same] at hi2
      rw [upd_same]
      have h2 : TjM.row { s with parts := s.parts ++ [p] } s.parts.length = p := by
        unfold TjM.row
        rw [if_neg (by omega)]; simp
      rw [h2]; exact hi2
    · rw [upd_other _ _ e, upd_other _ _ e, upd_other _ _ e] at hi2
      rw [upd_other _ _ e]
      have h2 : TjM.row { s with parts := s.parts ++ [p] } i = TjM.row s i := by
        unfold TjM.row
        split
        · rfl
        · dsimp only
          by_cases hl : i < s.parts.length
          · rw [List.getElem?_append_left hl]
          · rw [List.getElem?_eq_none (by simp; omega), List.getElem?_eq_none (by omega)]
      rw [h2]; exact hi2
  · refine ownsRow_setCell_below (a := ⟨W, 4, none⟩) ?_ hf.lt.2.2 _
    show w'.ownsRow _ _ _ _ (s.parts ++ [p]).length ((List.range (s.parts ++ [p]).length).map (upd v s.parts.length nv))
    rw [List.length_append, List.length_singleton, List.range_succ, List.map_append, List.map_singleton, upd_same]
    have e : (List.range s.parts.length).map (upd v s.parts.length nv) = (List.range s.parts.length).map v := List.map_congr_left (fun i hi => upd_other _ _ (by have := List.mem_range.1 hi; omega))
    rw [e]; exact ht
/-- The stack is cut. -/
theorem TjMem.cut (h : TjMem n w w1 O A B W base s v pv wr) (hf : TjFix n l w w1 O A B W base a c) (hp : s.parts.length ≤ 100) {m g cap : Nat} (hm : m ≤ s.stack.length) (hv : v 100 = .slice (some ⟨g, 0, none⟩) s.stack.length cap) :
    TjMem n w w1 O A B W base { s with stack := s.stack.take m } (upd v 100 (.slice (some ⟨g, 0, none⟩) m cap)) pv (wr.setCell ⟨W, 3, none⟩ (.slice (some ⟨g, 0, none⟩) m cap)) := by
  have ho := h.fam.own 100 (by omega)
  rw [hv] at ho
  have ho2 : wr.ownsRow base 3 1 (.slice (some ⟨g, 0, none⟩) m cap) m (intVals (GrM.ints (s.stack.take m))) := by
    have e : TjM.row s 100 = s.stack := rfl
    rw [e] at ho
    have := ownsRow_front ho hm
    have e2 : (intVals (GrM.ints s.stack)).take (m * 1) = intVals (GrM.ints (s.stack.take m)) := by
      unfold intVals GrM.ints
      rw [Nat.mul_one, ← List.map_take, ← List.map_take]
    rwa [e2] at this
  have hF := Fam.turn h.fam (k := 100) (by omega) ho2 (by rw [hv]; rfl)
  refine ⟨h.below.setCell hf.le.2.2.1 _, h.kept.set (Or.inr (Or.inr rfl)) _, ?_, Blk.other h.wt (Ne.symm h.neA) _, Blk.other h.lt (Ne.symm h.neB) _, ?_, ?_⟩
  · have := h.blk.set 3 (.slice (some ⟨g, 0, none⟩) m cap)
    rw [upd_same]
    exact this
  · refine ⟨fun i hi => ownsRow_setCell_below ?_ hf.lt.2.2 _, hF.apart⟩
    have hi2 := hF.own i hi
    by_cases e : i = 100
    · subst e
      rw [upd_same, upd_same, upd_same] at hi2
      rw [upd_same]
      show wr.ownsRow _ _ _ _ (s.stack.take m).length _
      rw [List.length_take, Nat.min_eq_left hm]
      exact hi2
    · rw [upd_other _ _ e, upd_other _ _ e, upd_other _ _ e] at hi2
      rw [upd_other _ _ e]
      have h2 : TjM.row { s with stack := s.stack.take m } i = TjM.row s i := by unfold TjM.row; rw [if_neg e, if_neg e]
      rw [h2]; exact hi2
  · refine ownsRow_setCell_below (a := ⟨W, 3, none⟩) ?_ hf.lt.2.2 _
    have e : (List.range s.parts.length).map (upd v 100 (.slice (some ⟨g, 0, none⟩) m cap)) = (List.range s.parts.length).map v := List.map_congr_left (fun i hi => upd_other _ _ (by have := List.mem_range.1 hi; omega))
    show wr.ownsRow _ _ _ _ s.parts.length ((List.range s.parts.length).map (upd v 100 _))
    rw [e]; exact h.tab
end
end
end Go.Proofs.Ytnnkejolfhhmlaa
