/- GraphParts, in plain Lean. -/
import Derived.Test.YtnnkejolfhhmlaaGreatGrB
import Derived.Test.YtnnkejolfhhmlaaGreatGrOR
import Derived.Test.YtnnkejolfhhmlaaGreatIntClone
import Derived.Deep.DeepMust
import Derived.Deep.RegionLaw
import Derived.BigRegion
import Derived.Test.YtnnkejolfhhmlaaGreatShPt
import Derived.Deep.Slices
namespace Go.Proofs.YtnnkejolfhhmlaaGreat
section
section
open Go.RowKit Go.Lib

structure TjSt where
  when : Nat → Nat
  low : Nat → Nat
  stack : List Nat
  parts : List (List Nat)
  time : Nat
namespace TjM
def start : TjSt := ⟨fun _ => 0, fun _ => 0, [], [], 0⟩
def sortN (l : List Nat) : List Nat := l.mergeSort fun x y => decide (x ≤ y)
def enter (s : TjSt) (k : Nat) : TjSt := ⟨upd s.when k (s.time + 1), upd s.low k (s.time + 1), s.stack ++ [k], s.parts, s.time + 1⟩
def lower (s : TjSt) (k v : Nat) : TjSt := { s with low := upd s.low k (min (s.low k) v) }
def leave (s : TjSt) (k : Nat) : TjSt := if s.low k = s.when k then { s with parts := s.parts ++ [sortN (s.stack.drop (s.stack.idxOf k))], stack := s.stack.take (s.stack.idxOf k) } else s
/-- A visit of k from a state (none: to its end; some i: behind i of the next nodes). -/
inductive Run (n : Nat) (l : List EgM) : TjSt → Nat → Option Nat → TjSt → Prop
  | start (s : TjSt) (k : Nat) : Run n l s k (some 0) (enter s k)
  | white {s t r : TjSt} {k i : Nat} (h : Run n l s k (some i) t) (hi : i < (GrM.next n l k).length) (h0 : t.when (GrM.next n l k)[i] = 0) (hr : Run n l t (GrM.next n l k)[i] none r) : Run n l s k (some (i + 1)) (lower r k (r.low (GrM.next n l k)[i]))
  | on {s t : TjSt} {k i : Nat} (h : Run n l s k (some i) t) (hi : i < (GrM.next n l k).length) (h0 : t.when (GrM.next n l k)[i] ≠ 0) (hs : (GrM.next n l k)[i] ∈ t.stack) : Run n l s k (some (i + 1)) (lower t k (t.when (GrM.next n l k)[i]))
  | off {s t : TjSt} {k i : Nat} (h : Run n l s k (some i) t) (hi : i < (GrM.next n l k).length) (h0 : t.when (GrM.next n l k)[i] ≠ 0) (hs : (GrM.next n l k)[i] ∉ t.stack) : Run n l s k (some (i + 1)) t
  | fin {s t : TjSt} {k : Nat} (h : Run n l s k (some (GrM.next n l k).length) t) : Run n l s k none (leave t k)

def R (n : Nat) (l : List EgM) (a b : Nat) : Prop := a = b ∨ GrM.Path n l a b
section
variable {n : Nat} {l : List EgM}
theorem R.refl (a : Nat) : R n l a a := Or.inl rfl
theorem R.trans {a b c : Nat} (h : R n l a b) (k : R n l b c) : R n l a c := by
  rcases h with rfl | h
  · exact k
  · rcases k with rfl | k
    · exact Or.inr h
    · exact Or.inr (h.trans k)
theorem R.edge {a b : Nat} (hb : b < n) (h : GrM.E l a b = true) : R n l a b := Or.inr (.one hb h)
/-- What is closed under edges is closed under paths. -/
theorem R.closed {A : Nat → Prop} (hA : ∀ x, A x → ∀ y, y < n → GrM.E l x y = true → A y) {a b : Nat} (ha : A a) (h : R n l a b) : A b := by
  rcases h with rfl | h
  · exact ha
  · induction h with
    | one h1 h2 => exact hA _ ha _ h1 h2
    | more _ h1 h2 ih => exact hA _ ih _ h1 h2
def white (n : Nat) (s : TjSt) : Nat := ((List.range n).filter fun x => decide (s.when x = 0)).length
structure Inv (n : Nat) (l : List EgM) (G : List Nat) (s : TjSt) : Prop where
  tm : ∀ x, s.when x ≤ s.time
  ct : s.time + white n s = n
  inj : ∀ x y, s.when x = s.when y → s.when x ≠ 0 → x = y
  vis : ∀ x, s.when x ≠ 0 → x < n
  st : ∀ x ∈ s.stack, s.when x ≠ 0
  srt : s.stack.Pairwise fun a b => s.when a < s.when b
  gr : ∀ g ∈ G, g ∈ s.stack
  cl : ∀ x, s.when x ≠ 0 → x ∉ G → ∀ y, y < n → GrM.E l x y = true → s.when y ≠ 0
  up : ∀ x ∈ s.stack, ∀ y ∈ s.stack, s.when x ≤ s.when y → R n l x y
  dn : ∀ y ∈ s.stack, ∃ g ∈ G, s.when g ≤ s.when y ∧ R n l y g
  off : ∀ x, s.when x ≠ 0 → x ∉ s.stack → ∀ y, y < n → GrM.E l x y = true → y ∉ s.stack
  nd : s.parts.flatten.Nodup
  pm : ∀ x, x ∈ s.parts.flatten ↔ s.when x ≠ 0 ∧ x ∉ s.stack
  scc : ∀ p ∈ s.parts, p ≠ [] ∧ p.Pairwise (· < ·) ∧ ∀ a ∈ p, ∀ b, b < n → (b ∈ p ↔ R n l a b ∧ R n l b a)
theorem Inv.start : Inv n l [] start where
  tm := fun _ => Nat.le_refl _
  ct := by
    show 0 + ((List.range n).filter fun x => decide (0 = 0)).length = n
    have : (List.range n).filter (fun x => decide (0 = 0)) = List.range n := List.filter_eq_self.2 (fun _ _ => by simp)
    rw [this]; simp
  inj := fun _ _ _ h => absurd rfl h
  vis := fun _ h => absurd rfl h
  st := fun x h => by cases h
  srt := List.Pairwise.nil
  gr := fun x h => by cases h
  cl := fun _ h => absurd rfl h
  up := fun x h => by cases h
  dn := fun x h => by cases h
  off := fun _ h => absurd rfl h
  nd := List.nodup_nil
  pm := fun x => by simp [TjM.start]
  scc := fun p h => by cases h
variable {G : List Nat} {s t : TjSt} {k : Nat}
theorem Inv.lower (h : Inv n l G s) (k v : Nat) : Inv n l G (lower s k v) := ⟨h.tm, h.ct, h.inj, h.vis, h.st, h.srt, h.gr, h.cl, h.up, h.dn, h.off, h.nd, h.pm, h.scc⟩
theorem Inv.stnd (h : Inv n l G s) : s.stack.Nodup := by
  rw [List.nodup_iff_pairwise_ne]
  exact h.srt.imp (fun h e => by rw [e] at h; exact Nat.lt_irrefl _ h)
theorem white_enter (s : TjSt) (hk : k < n) (h0 : s.when k = 0) : white n s = white n (enter s k) + 1 := by
  unfold white
  have h1 : (List.range n).filter (fun x => decide (s.when x = 0)) = ((List.range n).filter fun x => decide ((enter s k).when x = 0) || decide (x = k)) := by
    refine List.filter_congr fun x _ => ?_
    show decide (s.when x = 0) = (decide (upd s.when k (s.time + 1) x = 0) || decide (x = k))
    by_cases e : x = k
    · subst e; simp [h0]
    · rw [upd_other _ _ e]; simp [e]
  rw [h1]
  have key : ∀ m, k < m → ((List.range m).filter fun x => decide ((enter s k).when x = 0) || decide (x = k)).length = ((List.range m).filter fun x => decide ((enter s k).when x = 0)).length + 1 := by
    intro m
    induction m with
    | zero => intro h; omega
    | succ m ih =>
      intro h
      rw [List.range_succ, List.filter_append, List.filter_append, List.length_append, List.length_append]
      by_cases e : k = m
      · subst e
        have hw : (enter s k).when k ≠ 0 := by show upd s.when k (s.time + 1) k ≠ 0; rw [upd_same]; omega
        have h2 : (List.range k).filter (fun x => decide ((enter s k).when x = 0) || decide (x = k)) = (List.range k).filter fun x => decide ((enter s k).when x = 0) :=
          List.filter_congr fun x hx => by
            have := List.mem_range.1 hx
            rw [decide_eq_false (show ¬ x = k by omega), Bool.or_false]
        rw [h2]
        simp [hw]
      · rw [ih (by omega)]
        have h3 : [m].filter (fun x => decide ((enter s k).when x = 0) || decide (x = k)) = [m].filter fun x => decide ((enter s k).when x = 0) := List.filter_congr fun x hx => by
          have : x = m := by simpa using hx
          rw [decide_eq_false (show ¬ x = k by omega), Bool.or_false]
        rw [h3]; omega
  exact key n hk
theorem Inv.enter (h : Inv n l G s) (hk : k < n) (h0 : s.when k = 0) (hG : ∀ g ∈ G, R n l g k) : Inv n l (k :: G) (enter s k) := by
  have hne : ∀ x, s.when x ≠ 0 → x ≠ k := fun x h e => h (by rw [e, h0])
  have hw : ∀ x, x ≠ k → (TjM.enter s k).when x = s.when x := fun x e => upd_other _ _ e
  have hwk : (TjM.enter s k).when k = s.time + 1 := upd_same _ _ _
  have hst : ∀ x, x ∈ (TjM.enter s k).stack ↔ x ∈ s.stack ∨ x = k := fun x => by
    show x ∈ s.stack ++ [k] ↔ _
    rw [List.mem_append, List.mem_singleton]
  have hsn : ∀ x ∈ s.stack, x ≠ k := fun x hx => hne x (h.st x hx)
  have hv : ∀ x, (TjM.enter s k).when x ≠ 0 ↔ s.when x ≠ 0 ∨ x = k := fun x => by
    by_cases e : x = k
    · subst e; rw [hwk]; simp
    · rw [hw x e]; simp [e]
  refine ⟨fun x => ?_, ?_, fun x y he hn => ?_, fun x hx => ?_, fun x hx => ?_, ?_, fun g hg => ?_, fun x hx hxG y hy he => ?_, fun x hx y hy hle => ?_, fun y hy => ?_, fun x hx hxs y hy he => ?_, h.nd, fun x => ?_, h.scc⟩
  · show _ ≤ s.time + 1
    by_cases e : x = k
    · rw [e, hwk]; exact Nat.le_refl _
    · rw [hw x e]; have := h.tm x; omega
  · have := h.ct
    rw [white_enter s hk h0] at this
    show s.time + 1 + _ = n
    omega
  · by_cases ex : x = k
    · by_cases ey : y = k
      · rw [ex, ey]
      · rw [ex, hwk, hw y ey] at he
        have := h.tm y; omega
    · by_cases ey : y = k
      · rw [ey, hwk, hw x ex] at he
        have := h.tm x; omega
      · rw [hw x ex, hw y ey] at he
        rw [hw x ex] at hn
        exact h.inj x y he hn
  · rcases (hv x).1 hx with hx | rfl
    · exact h.vis x hx
    · exact hk
  · rcases (hst x).1 hx with hx | rfl
    · exact (hv x).2 (Or.inl (h.st x hx))
    · exact (hv x).2 (Or.inr rfl)
  · show (s.stack ++ [k]).Pairwise _
    rw [List.pairwise_append]
    refine ⟨?_, by simp, fun a ha b hb => ?_⟩
    · refine h.srt.imp_of_mem ?_
      intro a b ha hb hab
      rw [hw a (hsn a ha), hw b (hsn b hb)]; exact hab
    · rw [List.mem_singleton] at hb; subst hb
      rw [hwk, hw a (hsn a ha)]
      have := h.tm a; omega
  · rcases List.mem_cons.1 hg with rfl | hg
    · exact (hst g).2 (Or.inr rfl)
    · exact (hst g).2 (Or.inl (h.gr g hg))
  · rw [List.mem_cons, not_or] at hxG
    rcases (hv x).1 hx with hx | e
    · exact (hv y).2 (Or.inl (h.cl x hx hxG.2 y hy he))
    · exact absurd e hxG.1
  · rcases (hst x).1 hx with hx1 | rfl
    · rcases (hst y).1 hy with hy1 | rfl
      · rw [hw x (hsn x hx1), hw y (hsn y hy1)] at hle
        exact h.up x hx1 y hy1 hle
      · obtain ⟨g, hg, _, hr⟩ := h.dn x hx1
        exact hr.trans (hG g hg)
    · rcases (hst y).1 hy with hy | rfl
      · rw [hwk, hw y (hsn y hy)] at hle
        have := h.tm y; omega
      · exact R.refl _
  · rcases (hst y).1 hy with hy | rfl
    · obtain ⟨g, hg, h1, h2⟩ := h.dn y hy
      refine ⟨g, List.mem_cons_of_mem _ hg, ?_, h2⟩
      rw [hw g (hsn g (h.gr g hg)), hw y (hsn y hy)]; exact h1
    · exact ⟨y, List.mem_cons_self, Nat.le_refl _, R.refl _⟩
  · have hxs2 : x ∉ s.stack ∧ x ≠ k := ⟨fun h => hxs ((hst x).2 (Or.inl h)), fun h => hxs ((hst x).2 (Or.inr h))⟩
    have hx2 : s.when x ≠ 0 := ((hv x).1 hx).resolve_right hxs2.2
    rw [hst, not_or]
    refine ⟨h.off x hx2 hxs2.1 y hy he, ?_⟩
    rintro rfl
    exact h.cl x hx2 (fun hg => hxs2.1 (h.gr x hg)) y hy he h0
  · show x ∈ s.parts.flatten ↔ _
    rw [h.pm x, hv, hst]
    constructor
    · rintro ⟨h1, h2⟩
      exact ⟨Or.inl h1, not_or.2 ⟨h2, hne x h1⟩⟩
    · rintro ⟨h1, h2⟩
      rw [not_or] at h2
      exact ⟨h1.resolve_right h2.2, h2.1⟩
theorem Inv.stack_len (h : Inv n l G s) (hn : n ≤ 60) : s.stack.length ≤ 60 := by
  have := List.Nodup.length_le_of_subset h.stnd (l₂ := List.range n) (fun x hx => List.mem_range.2 (h.vis x (h.st x hx)))
  rw [List.length_range] at this; omega
theorem flat_len : ∀ (ps : List (List Nat)), (∀ p ∈ ps, p ≠ []) → ps.length ≤ ps.flatten.length
  | [], _ => Nat.le_refl _
  | p :: r, h => by
    have ih := flat_len r (fun q hq => h q (List.mem_cons_of_mem _ hq))
    have : p.length ≠ 0 := fun e => h p List.mem_cons_self (List.eq_nil_of_length_eq_zero e)
    rw [List.length_cons, List.flatten_cons, List.length_append]
    omega
theorem Inv.parts_len (h : Inv n l G s) : s.parts.length ≤ n := by
  have h1 := flat_len s.parts (fun p hp => (h.scc p hp).1)
  have h2 := List.Nodup.length_le_of_subset h.nd (l₂ := List.range n) (fun x hx => List.mem_range.2 (h.vis x ((h.pm x).1 hx).1))
  rw [List.length_range] at h2; omega
/-- What a visit leaves. -/
structure Post (n : Nat) (l : List EgM) (G : List Nat) (s : TjSt) (k : Nat) (t : TjSt) : Prop where
  inv : Inv n l G t
  old : ∀ x, s.when x ≠ 0 → t.when x = s.when x ∧ t.low x = s.low x
  stk : ∃ a, t.stack = s.stack ++ a ∧ (∀ u ∈ a, s.when u = 0) ∧ ∀ u ∈ a, ∀ y ∈ s.stack, GrM.E l u y = true → t.low k ≤ t.when y
  new : s.time < t.when k
  ex : ∃ y, t.when y = t.low k ∧ R n l k y ∧ (y = k ∨ y ∈ t.stack)
/-- In the midst. -/
structure Mid (n : Nat) (l : List EgM) (G : List Nat) (s : TjSt) (k i : Nat) (t : TjSt) : Prop where
  inv : Inv n l (k :: G) t
  old : ∀ x, s.when x ≠ 0 → t.when x = s.when x ∧ t.low x = s.low x
  stk : ∃ a, t.stack = s.stack ++ k :: a ∧ (∀ u ∈ a, s.when u = 0) ∧ ∀ u ∈ a, ∀ y ∈ s.stack, GrM.E l u y = true → t.low k ≤ t.when y
  whk : t.when k = s.time + 1
  le : t.low k ≤ t.when k
  ex : ∃ y ∈ t.stack, t.when y = t.low k ∧ R n l k y
  fst : ∀ j (h : j < (GrM.next n l k).length), j < i → t.when (GrM.next n l k)[j] ≠ 0 ∧ ((GrM.next n l k)[j] ∈ s.stack → t.low k ≤ t.when (GrM.next n l k)[j])
theorem nextAt {i : Nat} (hi : i < (GrM.next n l k).length) : (GrM.next n l k)[i] < n ∧ GrM.E l k (GrM.next n l k)[i] = true := GrM.mem_next.1 (List.getElem_mem hi)
theorem Mid.start (h : Inv n l G s) (hk : k < n) (h0 : s.when k = 0) (hG : ∀ g ∈ G, R n l g k) : Mid n l G s k 0 (TjM.enter s k) where
  inv := h.enter hk h0 hG
  old := fun x hx => by
    have e : x ≠ k := fun e => hx (by rw [e, h0])
    exact ⟨upd_other _ _ e, upd_other _ _ e⟩
  stk := ⟨[], rfl, by simp, by simp⟩
  whk := upd_same _ _ _
  le := by
    show upd s.low k (s.time + 1) k ≤ upd s.when k (s.time + 1) k
    rw [upd_same, upd_same]; exact Nat.le_refl _
  ex := ⟨k, by show k ∈ s.stack ++ [k]; simp, by show upd s.when k (s.time + 1) k = upd s.low k (s.time + 1) k; rw [upd_same, upd_same], R.refl _⟩
  fst := fun j _ h => by omega
theorem Mid.lowOther (v : Nat) {x : Nat} (hx : x ≠ k) : (TjM.lower t k v).low x = t.low x := upd_other _ _ hx
theorem Mid.lowAt (t : TjSt) (k v : Nat) : (TjM.lower t k v).low k = min (t.low k) v := upd_same _ _ _
theorem Mid.white {r : TjSt} {i : Nat} (h : Mid n l G s k i t) (hs : Inv n l G s) (hk0 : s.when k = 0) (hi : i < (GrM.next n l k).length) (h0 : t.when (GrM.next n l k)[i] = 0) (hp : Post n l (k :: G) t (GrM.next n l k)[i] r) : Mid n l G s k (i + 1) (TjM.lower r k (r.low (GrM.next n l k)[i])) := by
  obtain ⟨hx1, hx2⟩ := nextAt hi
  obtain ⟨a, ha1, ha2, ha3⟩ := h.stk
  obtain ⟨b, hb1, hb2, hb3⟩ := hp.stk
  have hkw : t.when k ≠ 0 := by rw [h.whk]; omega
  have hxk : (GrM.next n l k)[i] ≠ k := fun e => hkw (by rw [← e]; exact h0)
  have hsn : ∀ x, s.when x ≠ 0 → x ≠ k := fun x hx e => hx (by rw [e, hk0])
  have hst : ∀ x, s.when x ≠ 0 → t.when x ≠ 0 := fun x hx => by rw [(h.old x hx).1]; exact hx
  have hrk := (hp.old k hkw).2
  have hrw := (hp.old k hkw).1
  have hlow := Mid.lowAt r k (r.low (GrM.next n l k)[i])
  refine ⟨hp.inv.lower _ _, fun x hx => ?_, ⟨a ++ b, ?_, fun u hu => ?_, fun u hu y hy he => ?_⟩, ?_, ?_, ?_, fun j hj hji => ?_⟩
  · obtain ⟨o1, o2⟩ := h.old x hx
    obtain ⟨p1, p2⟩ := hp.old x (hst x hx)
    exact ⟨p1.trans o1, (Mid.lowOther _ (hsn x hx)).trans (p2.trans o2)⟩
  · show r.stack = _
    rw [hb1, ha1]; simp
  · rcases List.mem_append.1 hu with hu | hu
    · exact ha2 u hu
    · have := hb2 u hu
      refine Classical.byContradiction fun hne => ?_
      exact hst u hne this
  · rw [hlow]
    show _ ≤ r.when y
    rw [hrk]
    have hy1 := hst y (hs.st y hy)
    rcases List.mem_append.1 hu with hu | hu
    · have := ha3 u hu y hy he
      rw [(hp.old y hy1).1]; omega
    · have := hb3 u hu y (by rw [ha1]; exact List.mem_append_left _ hy) he
      omega
  · show r.when k = _
    rw [hrw]; exact h.whk
  · rw [hlow]
    show _ ≤ r.when k
    rw [hrk, hrw]
    have := h.le; omega
  · rw [hlow, hrk]
    obtain ⟨y, hy1, hy2, hy3⟩ := h.ex
    have hyt := h.inv.st y hy1
    by_cases hle : t.low k ≤ r.low (GrM.next n l k)[i]
    · refine ⟨y, ?_, ?_, hy3⟩
      · show y ∈ r.stack
        rw [hb1]; exact List.mem_append_left _ hy1
      · show r.when y = _
        rw [(hp.old y hyt).1, hy2]; omega
    · obtain ⟨z, hz1, hz2, hz3⟩ := hp.ex
      rcases hz3 with rfl | hz3
      · exfalso
        have := hp.new
        have := h.le
        have := h.inv.tm k
        omega
      · refine ⟨z, hz3, ?_, (R.edge hx1 hx2).trans hz2⟩
        show r.when z = _
        rw [hz1]; omega
  · rw [hlow, hrk]
    show r.when _ ≠ 0 ∧ (_ → _ ≤ r.when _)
    by_cases e : j = i
    · subst e
      refine ⟨by have := hp.new; omega, fun hin => ?_⟩
      exact absurd h0 (hst _ (hs.st _ hin))
    · obtain ⟨f1, f2⟩ := h.fst j hj (by omega)
      rw [(hp.old _ f1).1]
      refine ⟨f1, fun hin => ?_⟩
      have := f2 hin; omega
theorem Mid.on {i : Nat} (h : Mid n l G s k i t) (hk0 : s.when k = 0) (hi : i < (GrM.next n l k).length) (h0 : t.when (GrM.next n l k)[i] ≠ 0) (hst : (GrM.next n l k)[i] ∈ t.stack) : Mid n l G s k (i + 1) (TjM.lower t k (t.when (GrM.next n l k)[i])) := by
  obtain ⟨hx1, hx2⟩ := nextAt hi
  obtain ⟨a, ha1, ha2, ha3⟩ := h.stk
  have hsn : ∀ x, s.when x ≠ 0 → x ≠ k := fun x hx e => hx (by rw [e, hk0])
  have hlow := Mid.lowAt t k (t.when (GrM.next n l k)[i])
  refine ⟨h.inv.lower _ _, fun x hx => ⟨(h.old x hx).1, (Mid.lowOther _ (hsn x hx)).trans (h.old x hx).2⟩, ⟨a, ha1, ha2, fun u hu y hy he => ?_⟩, h.whk, ?_, ?_, fun j hj hji => ?_⟩
  · rw [hlow]
    have := ha3 u hu y hy he
    show _ ≤ t.when y
    omega
  · rw [hlow]
    have := h.le
    show _ ≤ t.when k
    omega
  · rw [hlow]
    obtain ⟨y, hy1, hy2, hy3⟩ := h.ex
    by_cases hle : t.low k ≤ t.when (GrM.next n l k)[i]
    · exact ⟨y, hy1, by show t.when y = _; omega, hy3⟩
    · exact ⟨_, hst, by show t.when _ = _; omega, R.edge hx1 hx2⟩
  · rw [hlow]
    show t.when _ ≠ 0 ∧ (_ → _ ≤ t.when _)
    by_cases e : j = i
    · subst e; exact ⟨h0, fun _ => by omega⟩
    · obtain ⟨f1, f2⟩ := h.fst j hj (by omega)
      exact ⟨f1, fun hin => by have := f2 hin; omega⟩
theorem Mid.off {i : Nat} (h : Mid n l G s k i t) (hi : i < (GrM.next n l k).length) (h0 : t.when (GrM.next n l k)[i] ≠ 0) (hst : (GrM.next n l k)[i] ∉ t.stack) : Mid n l G s k (i + 1) t := by
  refine ⟨h.inv, h.old, h.stk, h.whk, h.le, h.ex, fun j hj hji => ?_⟩
  by_cases e : j = i
  · subst e
    refine ⟨h0, fun hin => ?_⟩
    obtain ⟨a, ha1, _⟩ := h.stk
    exact absurd (by rw [ha1]; exact List.mem_append_left _ hin) hst
  · exact h.fst j hj (by omega)
theorem sortN_perm (l : List Nat) : (sortN l).Perm l := List.mergeSort_perm _ _
theorem sortN_pair (l : List Nat) : (sortN l).Pairwise fun x y => x ≤ y := by
  have := List.pairwise_mergeSort (le := fun x y : Nat => decide (x ≤ y)) (fun a b c h1 h2 => by
      simp only [decide_eq_true_eq] at *; omega) (fun a b => by
      simp only [Bool.or_eq_true, decide_eq_true_eq]; omega) l
  exact this.imp (fun h => of_decide_eq_true h)
/-- The place of k. -/
theorem Mid.idx {i : Nat} (h : Mid n l G s k i t) : t.stack.idxOf k = s.stack.length ∧ t.stack.take s.stack.length = s.stack ∧ ∃ a, t.stack.drop s.stack.length = k :: a ∧ t.stack = s.stack ++ k :: a := by
  obtain ⟨a, ha1, ha2, _⟩ := h.stk
  have hk : k ∉ s.stack := fun hin => by
    have := h.inv.stnd
    rw [ha1] at this
    exact (List.nodup_append.1 this).2.2 k hin k List.mem_cons_self rfl
  refine ⟨?_, ?_, a, ?_, ha1⟩
  · rw [ha1, List.idxOf_append, if_neg hk]; simp
  · rw [ha1]; simp
  · rw [ha1]; simp
theorem Mid.fin (h : Mid n l G s k (GrM.next n l k).length t) (hs : Inv n l G s) (hk0 : s.when k = 0) (hk : k < n) (hG : ∀ g ∈ G, R n l g k) : Post n l G s k (TjM.leave t k) := by
  obtain ⟨hidx, htake, a, hdrop, hstk⟩ := h.idx
  obtain ⟨a', ha1, ha2, ha3⟩ := h.stk
  obtain rfl : a' = a := by
    have := ha1.symm.trans hstk
    simpa using this
  have hI := h.inv
  have hkw : t.when k ≠ 0 := by rw [h.whk]; omega
  have hst : ∀ x, s.when x ≠ 0 → t.when x ≠ 0 := fun x hx => by rw [(h.old x hx).1]; exact hx
  have hkE : ∀ y, y < n → GrM.E l k y = true → t.when y ≠ 0 ∧ (y ∈ s.stack → t.low k ≤ t.when y) := fun y hy he => by
    obtain ⟨j, hj, rfl⟩ := List.mem_iff_getElem.1 (GrM.mem_next.2 ⟨hy, he⟩)
    exact h.fst j hj hj
  have hsIn : ∀ x ∈ s.stack, x ∈ t.stack := fun x hx => by rw [hstk]; exact List.mem_append_left _ hx
  have hsub : ∀ g ∈ G, g ∈ s.stack := hs.gr
  have hcl : ∀ x, t.when x ≠ 0 → x ∉ G → ∀ y, y < n → GrM.E l x y = true → t.when y ≠ 0 := fun x hx hxG y hy he => by
    by_cases e : x = k
    · subst e; exact (hkE y hy he).1
    · exact hI.cl x hx (by rw [List.mem_cons, not_or]; exact ⟨e, hxG⟩) y hy he
  have hkS : k ∉ s.stack := fun hin => hs.st k hin hk0
  unfold TjM.leave
  by_cases hc : t.low k = t.when k
  · -- a part
    rw [if_pos hc, hidx, htake, hdrop]
    have hbelow : ∀ y ∈ s.stack, t.when y < t.when k := fun y hy => by
      have := hI.srt
      rw [hstk, List.pairwise_append] at this
      exact this.2.2 y hy k List.mem_cons_self
    have habove : ∀ y ∈ k :: a', t.when k ≤ t.when y := fun y hy => by
      rcases List.mem_cons.1 hy with rfl | hy
      · exact Nat.le_refl _
      · have := hI.srt
        rw [hstk, List.pairwise_append, List.pairwise_cons] at this
        exact Nat.le_of_lt (this.2.1.1 y hy)
    have hmt : ∀ x, x ∈ t.stack ↔ x ∈ s.stack ∨ x ∈ k :: a' := fun x => by rw [hstk, List.mem_append]
    have hdisj : ∀ x ∈ s.stack, x ∉ k :: a' := fun x hx hx2 => by
      have := hbelow x hx; have := habove x hx2; omega
    -- all of the new part come to k, and k to them
    have hmut : ∀ x ∈ k :: a', R n l k x ∧ R n l x k := fun x hx => by
      have hxt := (hmt x).2 (Or.inr hx)
      refine ⟨hI.up k ((hmt k).2 (Or.inr List.mem_cons_self)) x hxt (habove x hx), ?_⟩
      obtain ⟨g, hg, _, hr⟩ := hI.dn x hxt
      rcases List.mem_cons.1 hg with rfl | hg
      · exact hr
      · exact hr.trans (hG g hg)
    -- edges of the new part do not go below it
    have hout : ∀ x ∈ k :: a', ∀ y, y < n → GrM.E l x y = true → y ∉ s.stack ∧ t.when y ≠ 0 := fun x hx y hy he => by
      have hxw := hI.st x ((hmt x).2 (Or.inr hx))
      have hxG : x ∉ G := fun hg => hdisj x (hsub x hg) hx
      refine ⟨fun hin => ?_, hcl x hxw hxG y hy he⟩
      have hb := hbelow y hin
      rcases List.mem_cons.1 hx with rfl | hx
      · have := (hkE y hy he).2 hin; omega
      · have := ha3 x hx y hin he; omega
    have hclosed : ∀ x, (x ∈ k :: a' ∨ (t.when x ≠ 0 ∧ x ∉ t.stack)) → ∀ y, y < n → GrM.E l x y = true → (y ∈ k :: a' ∨ (t.when y ≠ 0 ∧ y ∉ t.stack)) := fun x hx y hy he => by
      rcases hx with hx | ⟨hx1, hx2⟩
      · obtain ⟨h1, h2⟩ := hout x hx y hy he
        by_cases hyt : y ∈ t.stack
        · exact Or.inl (((hmt y).1 hyt).resolve_left h1)
        · exact Or.inr ⟨h2, hyt⟩
      · exact Or.inr ⟨hI.cl x hx1 (fun hg => hx2 (hI.gr x hg)) y hy he, hI.off x hx1 hx2 y hy he⟩
    have hdone : ∀ x, (t.when x ≠ 0 ∧ x ∉ t.stack) → ∀ y, y < n → GrM.E l x y = true → (t.when y ≠ 0 ∧ y ∉ t.stack) := fun x hx y hy he =>
      ⟨hI.cl x hx.1 (fun hg => hx.2 (hI.gr x hg)) y hy he, hI.off x hx.1 hx.2 y hy he⟩
    have hmax : ∀ b, R n l k b → R n l b k → b ∈ k :: a' := fun b h1 h2 => by
      rcases R.closed (A := fun x => x ∈ k :: a' ∨ (t.when x ≠ 0 ∧ x ∉ t.stack)) hclosed (Or.inl List.mem_cons_self) h1 with hb | hb
      · exact hb
      · exact absurd ((hmt k).2 (Or.inr List.mem_cons_self)) (R.closed (A := fun x => t.when x ≠ 0 ∧ x ∉ t.stack) hdone hb h2).2
    have hmem : ∀ x, x ∈ sortN (k :: a') ↔ x ∈ k :: a' := fun x => (sortN_perm _).mem_iff
    have hnd : (k :: a').Nodup := by
      have := hI.stnd
      rw [hstk, List.nodup_append] at this
      exact this.2.1
    refine ⟨⟨hI.tm, hI.ct, hI.inj, hI.vis, fun x hx => hI.st x (hsIn x hx), ?_, hsub, hcl, fun x hx y hy hle => hI.up x (hsIn x hx) y (hsIn y hy) hle, fun y hy => ?_, fun x hx hxs y hy he => ?_, ?_, fun x => ?_, fun p hp => ?_⟩, h.old, ⟨[], by simp, by simp, by simp⟩, ?_, ⟨k, ?_, R.refl _, Or.inl rfl⟩⟩
    · have := hI.srt
      rw [hstk, List.pairwise_append] at this
      exact this.1
    · obtain ⟨g, hg, h1, h2⟩ := hs.dn y hy
      refine ⟨g, hg, ?_, h2⟩
      show t.when g ≤ t.when y
      rw [(h.old g (hs.st g (hsub g hg))).1, (h.old y (hs.st y hy)).1]; exact h1
    · dsimp only at hx hxs ⊢
      by_cases hxt : x ∈ t.stack
      · exact (hout x (((hmt x).1 hxt).resolve_left hxs) y hy he).1
      · exact fun hin => hI.off x hx hxt y hy he (hsIn y hin)
    · dsimp only
      rw [List.flatten_append, List.nodup_append]
      refine ⟨hI.nd, by simpa using (sortN_perm _).nodup_iff.2 hnd, fun x hx y hy => ?_⟩
      rintro rfl
      have h1 := (hI.pm x).1 hx
      have h2 : x ∈ sortN (k :: a') := by simpa using hy
      exact h1.2 ((hmt x).2 (Or.inr ((hmem x).1 h2)))
    · dsimp only
      rw [List.flatten_append, List.mem_append, hI.pm x]
      have e : x ∈ [sortN (k :: a')].flatten ↔ x ∈ k :: a' := by simp only [List.flatten_cons, List.flatten_nil, List.append_nil]; exact hmem x
      rw [e]
      constructor
      · rintro (⟨h1, h2⟩ | h1)
        · exact ⟨h1, fun hin => h2 (hsIn x hin)⟩
        · exact ⟨hI.st x ((hmt x).2 (Or.inr h1)), fun hin => hdisj x hin h1⟩
      · rintro ⟨h1, h2⟩
        by_cases hxt : x ∈ t.stack
        · exact Or.inr (((hmt x).1 hxt).resolve_left h2)
        · exact Or.inl ⟨h1, hxt⟩
    · dsimp only at hp
      rcases List.mem_append.1 hp with hp | hp
      · exact hI.scc p hp
      · rw [List.mem_singleton] at hp
        subst hp
        refine ⟨fun e => ?_, ?_, fun x hx b hb => ?_⟩
        · have := (hmem k).2 List.mem_cons_self
          rw [e] at this; cases this
        · have h1 := sortN_pair (k :: a')
          have h2 := List.nodup_iff_pairwise_ne.1 ((sortN_perm (k :: a')).nodup_iff.2 hnd)
          exact (h1.and h2).imp (fun h => Nat.lt_of_le_of_ne h.1 h.2)
        · rw [hmem] at hx ⊢
          obtain ⟨m1, m2⟩ := hmut x hx
          constructor
          · intro hb2
            obtain ⟨m3, m4⟩ := hmut b hb2
            exact ⟨m2.trans m3, m4.trans m1⟩
          · rintro ⟨m3, m4⟩
            exact hmax b (m1.trans m3) (m4.trans m2)
    · show s.time < t.when k
      rw [h.whk]; omega
    · exact hc.symm
  · rw [if_neg hc]
    have hlt : t.low k < t.when k := by have := h.le; omega
    obtain ⟨y0, hy1, hy2, hy3⟩ := h.ex
    obtain ⟨g0, hg0, hg1, hg2⟩ := hI.dn y0 hy1
    have hg0G : g0 ∈ G := by
      rcases List.mem_cons.1 hg0 with rfl | hg
      · omega
      · exact hg
    refine ⟨⟨hI.tm, hI.ct, hI.inj, hI.vis, hI.st, hI.srt, fun g hg => hI.gr g (List.mem_cons_of_mem _ hg), hcl, hI.up, fun y hy => ?_, hI.off, hI.nd, hI.pm, hI.scc⟩, h.old, ⟨k :: a', hstk, fun u hu => ?_, fun u hu y hy he => ?_⟩, ?_, ⟨y0, hy2, hy3, Or.inr hy1⟩⟩
    · obtain ⟨g, hg, h1, h2⟩ := hI.dn y hy
      rcases List.mem_cons.1 hg with rfl | hg
      · exact ⟨g0, hg0G, by omega, h2.trans (hy3.trans hg2)⟩
      · exact ⟨g, hg, h1, h2⟩
    · rcases List.mem_cons.1 hu with rfl | hu
      · exact hk0
      · exact ha2 u hu
    · rcases List.mem_cons.1 hu with rfl | hu
      · exact (hkE y (hs.vis y (hs.st y hy)) he).2 hy
      · exact ha3 u hu y hy he
    · rw [h.whk]; omega
/-- What a visit keeps. -/
theorem run_keeps {o : Option Nat} (h : Run n l s k o t) : ∀ G, Inv n l G s → s.when k = 0 → k < n → (∀ g ∈ G, R n l g k) → match (generalizing := false) o with | none => Post n l G s k t | some i => Mid n l G s k i t := by
  induction h with
  | start s k => exact fun G hI h0 hk hG => Mid.start hI hk h0 hG
  | @white s t r k i _ hi h0 _ ih1 ih2 =>
    intro G hI hk0 hk hG
    have hm := ih1 G hI hk0 hk hG
    dsimp only at hm ⊢
    have hx := nextAt hi
    exact hm.white hI hk0 hi h0 (ih2 (k :: G) hm.inv h0 hx.1 (fun g hg => by
      rcases List.mem_cons.1 hg with rfl | hg
      · exact R.edge hx.1 hx.2
      · exact (hG g hg).trans (R.edge hx.1 hx.2)))
  | on _ hi h0 hs ih =>
    intro G hI hk0 hk hG
    have hm := ih G hI hk0 hk hG
    dsimp only at hm ⊢
    exact hm.on hk0 hi h0 hs
  | off _ hi h0 hs ih =>
    intro G hI hk0 hk hG
    have hm := ih G hI hk0 hk hG
    dsimp only at hm ⊢
    exact hm.off hi h0 hs
  | fin _ ih =>
    intro G hI hk0 hk hG
    have hm := ih G hI hk0 hk hG
    dsimp only at hm ⊢
    exact hm.fin hI hk0 hk hG
end
end TjM
end
section
open Go.RowKit Go.Lib

theorem tj_far {w w1 : World} {base base' e e' size size' n n' : Nat} {row u : Value} {xs xs' : List Value} (hno : w.ownsRow base e size row n xs) (hg : w.grownBy w1 row.ownBlock) (hu : w.ownsRow base' e' size' u n' xs') (h1 : e' ≠ e) : w1.ownsRow base' e' size' u n' xs' :=
  hu.kept hg (by
    cases hb : u.ownBlock with
    | none => exact Or.inl rfl
    | some b =>
      refine Or.inr (fun e2 => ?_)
      rcases hu.2 with ⟨rfl, _⟩ | ⟨q, _, cur, rfl, _, hq, _⟩
      · simp [Value.ownBlock] at hb
      · rcases hno.2 with ⟨h5, _⟩ | ⟨q2, _, cur2, h5, _, hq2, _⟩
        · rw [h5] at e2; simp [Value.ownBlock] at e2
        · rw [h5] at e2
          simp only [Value.ownBlock, Option.some.injEq] at hb e2
          subst hb; subst e2
          rw [hq] at hq2
          injection hq2 with hq2
          injection hq2 with _ h6
          exact h1 h6)
/-- A beginning of an own row. -/
theorem ownsRow_front {w : World} {base e size g cap n : Nat} {xs : List Value} (h : w.ownsRow base e size (.slice (some ⟨g, 0, none⟩) n cap) n xs) {m : Nat} (hm : m ≤ n) : w.ownsRow base e size (.slice (some ⟨g, 0, none⟩) m cap) m (xs.take (m * size)) := by
  obtain ⟨h1, h2⟩ := h
  have hle : m * size ≤ n * size := Nat.mul_le_mul_right _ hm
  refine ⟨by rw [List.length_take]; omega, ?_⟩
  rcases h2 with ⟨h0, _⟩ | ⟨g', cap', cur, hv, hg, hh, hn, hcap, hsz, htake⟩
  · cases h0
  · cases hv
    refine .inr ⟨g, cap, cur, rfl, hg, hh, by omega, hcap, hsz, ?_⟩
    rw [← htake, List.take_take, Nat.min_eq_left hle]
/-- One row is new. -/
theorem Fam.fresh {w w' : World} {base N e size k n' : Nat} {v : Nat → Value} {m : Nat → Nat} {xs : Nat → List Value} {v' : Value} {ys : List Value} (h : Fam w base N e size v m xs)
    (ho : w'.ownsRow base e size v' n' ys) (hb : Below w.heap.size w w') (hat : ∀ g, v'.ownBlock = some g → w.heap.size ≤ g) : Fam w' base N e size (upd v k v') (upd m k n') (upd xs k ys) := by
  have hlt : ∀ i, i < N → ∀ g, (v i).ownBlock = some g → g < w.heap.size := fun i hi g hg => ((h.own i hi).lt g hg).2
  refine ⟨fun i hi => ?_, fun i j hi hj hij g h1 => ?_⟩
  · by_cases e : i = k
    · subst e; rw [upd_same, upd_same, upd_same]; exact ho
    · rw [upd_other _ _ e, upd_other _ _ e, upd_other _ _ e]
      exact ownsRow_below (h.own i hi) hb
  · by_cases ei : i = k
    · subst ei
      rw [upd_same] at h1
      rw [upd_other _ _ (Ne.symm hij)]
      intro h3
      have := hlt j hj g h3
      have := hat g h1
      omega
    · rw [upd_other _ _ ei] at h1
      by_cases ej : j = k
      · subst ej
        rw [upd_same]
        intro h3
        have := hlt i hi g h1
        have := hat g h3
        omega
      · rw [upd_other _ _ ej]
        exact h.apart i j hi hj hij g h1
/-- One row lies in the block in which it lay. -/
theorem Fam.turn {w : World} {base N e size k n' : Nat} {v : Nat → Value} {m : Nat → Nat} {xs : Nat → List Value} {v' : Value} {ys : List Value} (h : Fam w base N e size v m xs) (hk : k < N)
    (ho : w.ownsRow base e size v' n' ys) (hat : v'.ownBlock = (v k).ownBlock) : Fam w base N e size (upd v k v') (upd m k n') (upd xs k ys) := by
  refine ⟨fun i hi => ?_, fun i j hi hj hij g h1 => ?_⟩
  · by_cases e : i = k
    · subst e; rw [upd_same, upd_same, upd_same]; exact ho
    · rw [upd_other _ _ e, upd_other _ _ e, upd_other _ _ e]; exact h.own i hi
  · have hv : ∀ a, (upd v k v' a).ownBlock = (v a).ownBlock := fun a => by
      by_cases e : a = k
      · subst e; rw [upd_same]; exact hat
      · rw [upd_other _ _ e]
    rw [hv] at h1 ⊢
    exact h.apart i j hi hj hij g h1
theorem Fam.like {w : World} {base N e size : Nat} {v v' : Nat → Value} {m m' : Nat → Nat} {xs xs' : Nat → List Value} (h : Fam w base N e size v m xs) (h1 : ∀ i, i < N → v' i = v i) (h2 : ∀ i, i < N → m' i = m i) (h3 : ∀ i, i < N → xs' i = xs i) : Fam w base N e size v' m' xs' :=
  ⟨fun i hi => by rw [h1 i hi, h2 i hi, h3 i hi]; exact h.own i hi, fun i j hi hj hij g hg => by rw [h1 i hi] at hg; rw [h1 j hj]; exact h.apart i j hi hj hij g hg⟩

/-- All but three blocks is as it was. -/
structure Kept (A B W base : Nat) (w1 wr : World) : Prop where
  size : base ≤ wr.heap.size
  at_ : ∀ b, b < base → b ≠ A → b ≠ B → b ≠ W → wr.heap[b]? = w1.heap[b]?
section
variable {A B W base : Nat} {w1 wr w' : World}
theorem Kept.to (h : Kept A B W base w1 wr) (hs : wr.heap.size ≤ w'.heap.size) (hb : ∀ b, b < base → b ≠ A → b ≠ B → b ≠ W → w'.heap[b]? = wr.heap[b]?) : Kept A B W base w1 w' :=
  ⟨Nat.le_trans h.size hs, fun b h1 h2 h3 h4 => (hb b h1 h2 h3 h4).trans (h.at_ b h1 h2 h3 h4)⟩
theorem Kept.set (h : Kept A B W base w1 wr) {p : Addr} (hp : p.block = A ∨ p.block = B ∨ p.block = W) (u : Value) : Kept A B W base w1 (wr.setCell p u) :=
  h.to (by simp [World.setCell]) (fun b _ h2 h3 h4 => Below.heap_setCell _ _ _ _ (by omega))
theorem Kept.alloc (h : Kept A B W base w1 wr) (o : Obj) : Kept A B W base w1 (wr.alloc o) :=
  h.to (by simp) (fun b hb _ _ _ => Below.heap_alloc _ _ _ (Nat.lt_of_lt_of_le hb h.size))
theorem Kept.below (h : Kept A B W base w1 wr) (hb : Below wr.heap.size wr w') : Kept A B W base w1 w' :=
  h.to hb.size (fun b h1 _ _ _ => hb.block b (Nat.lt_of_lt_of_le h1 h.size))
theorem Kept.grown (h : Kept A B W base w1 wr) {row : Option Nat} (hg : wr.grownBy w' row) (hr : ∀ k, row = some k → base ≤ k) : Kept A B W base w1 w' :=
  h.to hg.size (fun b h1 _ _ _ => hg.block b (Nat.lt_of_lt_of_le h1 h.size) (fun e => by have := hr b e.symm; omega))
end

def TjM.row (s : TjSt) (i : Nat) : List Nat := if i = 100 then s.stack else (s.parts[i]?).getD []
def TjM.cells (n O A B : Nat) (sv pv : Value) (time : Nat) : List Value := [.slice (some ⟨O, 0, none⟩) n n, .slice (some ⟨A, 0, none⟩) n n, .slice (some ⟨B, 0, none⟩) n n, sv, pv, .int .i64 (time : Int)]
/-- What stays. -/
structure TjFix (n : Nat) (l : List EgM) (w w1 : World) (O A B W base : Nat) (a : Nat → Option Addr) (c : Nat → Nat) : Prop where
  lt : A < base ∧ B < base ∧ W < base
  le : w.heap.size ≤ A ∧ w.heap.size ≤ B ∧ w.heap.size ≤ W ∧ w.heap.size ≤ base
  ne : A ≠ B
  rows : ∀ wr, Kept A B W base w1 wr → ∀ k, k < n → wr.cell? ⟨O, k, none⟩ = some (.slice (a k) (GrM.next n l k).length (c k)) ∧ IntsAt wr (a k) (GrM.ints (GrM.next n l k))
structure TjMem (n : Nat) (w w1 : World) (O A B W base : Nat) (s : TjSt) (v : Nat → Value) (pv : Value) (wr : World) : Prop where
  below : Below w.heap.size w wr
  kept : Kept A B W base w1 wr
  blk : Blk wr W 205 (TjM.cells n O A B (v 100) pv s.time)
  wt : ITab wr A n (fun x => (s.when x : Int))
  lt : ITab wr B n (fun x => (s.low x : Int))
  fam : Fam wr base 101 3 1 v (fun i => (TjM.row s i).length) (fun i => intVals (GrM.ints (TjM.row s i)))
  tab : wr.ownsRow base 23 1 pv s.parts.length ((List.range s.parts.length).map v)
section
variable {n : Nat} {l : List EgM} {w w1 wr w' : World} {O A B W base : Nat} {a : Nat → Option Addr} {c : Nat → Nat} {s : TjSt} {v : Nat → Value} {pv : Value}
theorem TjMem.alloc (h : TjMem n w w1 O A B W base s v pv wr) (hf : TjFix n l w w1 O A B W base a c) (o : Obj) : TjMem n w w1 O A B W base s v pv (wr.alloc o) :=
  ⟨h.below.alloc (Nat.le_trans hf.le.2.2.2 h.kept.size) o, h.kept.alloc o, h.blk.alloc o, Blk.alloc h.wt o, Blk.alloc h.lt o, h.fam.alloc o, h.tab.alloc o⟩
theorem TjMem.drew (h : TjMem n w w1 O A B W base s v pv wr) : TjMem n w w1 O A B W base s v pv wr.drew :=
  ⟨h.below.drew, ⟨h.kept.size, h.kept.at_⟩, h.blk.drew, Blk.drew h.wt, Blk.drew h.lt, h.fam.drew, h.tab.drew⟩
theorem TjMem.drewN (h : TjMem n w w1 O A B W base s v pv wr) (q : Nat) : TjMem n w w1 O A B W base s v pv (wr.drewN q) :=
  ⟨⟨h.below.os, h.below.tape, h.below.output, h.below.size, h.below.block⟩, ⟨h.kept.size, h.kept.at_⟩, h.blk.drewN q, Blk.drewN h.wt q, Blk.drewN h.lt q, ⟨h.fam.own, h.fam.apart⟩, h.tab⟩
theorem TjMem.neA (h : TjMem n w w1 O A B W base s v pv wr) : W ≠ A := Blk.ne (t' := 3) h.blk h.wt (by decide)
theorem TjMem.neB (h : TjMem n w w1 O A B W base s v pv wr) : W ≠ B := Blk.ne (t' := 3) h.blk h.lt (by decide)
theorem TjMem.lowered (h : TjMem n w w1 O A B W base s v pv wr) (hf : TjFix n l w w1 O A B W base a c) (k x : Nat) : TjMem n w w1 O A B W base { s with low := upd s.low k x } v pv (wr.setCell ⟨B, k, none⟩ (.int .i64 (x : Int))) where
  below := h.below.setCell hf.le.2.1 _
  kept := h.kept.set (Or.inr (Or.inl rfl)) _
  blk := h.blk.other h.neB _
  wt := Blk.other h.wt hf.ne _
  lt := (h.lt.set k (x : Int)).congr (fun i _ => by unfold upd; dsimp only; split <;> rfl)
  fam := ⟨fun i hi => ownsRow_setCell_below (h.fam.own i hi) hf.lt.2.1 _, h.fam.apart⟩
  tab := ownsRow_setCell_below h.tab hf.lt.2.1 _
theorem TjMem.whened (h : TjMem n w w1 O A B W base s v pv wr) (hf : TjFix n l w w1 O A B W base a c) (k x : Nat) : TjMem n w w1 O A B W base { s with when := upd s.when k x } v pv (wr.setCell ⟨A, k, none⟩ (.int .i64 (x : Int))) where
  below := h.below.setCell hf.le.1 _
  kept := h.kept.set (Or.inl rfl) _
  blk := h.blk.other h.neA _
  wt := (h.wt.set k (x : Int)).congr (fun i _ => by unfold upd; dsimp only; split <;> rfl)
  lt := Blk.other h.lt (Ne.symm hf.ne) _
  fam := ⟨fun i hi => ownsRow_setCell_below (h.fam.own i hi) hf.lt.1 _, h.fam.apart⟩
  tab := ownsRow_setCell_below h.tab hf.lt.1 _
theorem TjMem.timed (h : TjMem n w w1 O A B W base s v pv wr) (hf : TjFix n l w w1 O A B W base a c) (x : Nat) : TjMem n w w1 O A B W base { s with time := x } v pv (wr.setCell ⟨W, 5, none⟩ (.int .i64 (x : Int))) where
  below := h.below.setCell hf.le.2.2.1 _
  kept := h.kept.set (Or.inr (Or.inr rfl)) _
  blk := h.blk.set 5 _
  wt := Blk.other h.wt (Ne.symm h.neA) _
  lt := Blk.other h.lt (Ne.symm h.neB) _
  fam := ⟨fun i hi => ownsRow_setCell_below (h.fam.own i hi) hf.lt.2.2 _, h.fam.apart⟩
  tab := ownsRow_setCell_below h.tab hf.lt.2.2 _
/-- The stack has grown. -/
theorem TjMem.pushed (h : TjMem n w w1 O A B W base s v pv wr) (hf : TjFix n l w w1 O A B W base a c) (hp : s.parts.length ≤ 100) {k : Nat} {sv : Value} (ho : w'.ownsRow base 3 1 sv (s.stack.length + 1) (intVals (GrM.ints (s.stack ++ [k])))) (hg : wr.grownBy w' (v 100).ownBlock) (hat : sv.ownBlock = (v 100).ownBlock ∨ sv.ownBlock = some wr.heap.size) :
    TjMem n w w1 O A B W base { s with stack := s.stack ++ [k] } (upd v 100 sv) pv (w'.setCell ⟨W, 3, none⟩ sv) := by
  have ho100 := h.fam.own 100 (by omega)
  have hrow : ∀ q, (v 100).ownBlock = some q → base ≤ q := fun q hq => (ho100.lt q hq).1
  have hk := h.kept.grown hg hrow
  have hA : some A ≠ (v 100).ownBlock := fun e => by have := hrow A e.symm; have := hf.lt.1; omega
  have hB : some B ≠ (v 100).ownBlock := fun e => by have := hrow B e.symm; have := hf.lt.2.1; omega
  have hW : some W ≠ (v 100).ownBlock := fun e => by have := hrow W e.symm; have := hf.lt.2.2; omega
  have bW := h.blk.grown hg (Ne.symm hW)
  have bA : ITab w' A n _ := Blk.grown h.wt hg (Ne.symm hA)
  have bB : ITab w' B n _ := Blk.grown h.lt hg (Ne.symm hB)
  have hF := Fam.append h.fam (k := 100) (by omega) ho hg hat
  have hT := tj_far ho100 hg h.tab (by decide)
  refine ⟨(h.below.grown hg (Nat.le_trans hf.le.2.2.2 h.kept.size) (fun q hq => Nat.le_trans hf.le.2.2.2 (hrow q hq))).setCell hf.le.2.2.1 _, hk.set (Or.inr (Or.inr rfl)) _, ?_, Blk.other bA (Ne.symm h.neA) _, Blk.other bB (Ne.symm h.neB) _, ?_, ?_⟩
  · have := bW.set 3 sv
    rw [upd_same]
    exact this
  · refine ⟨fun i hi => ownsRow_setCell_below ?_ hf.lt.2.2 _, hF.apart⟩
    have := hF.own i hi
    by_cases e : i = 100
    · subst e
      rw [upd_same, upd_same, upd_same] at this
      rw [upd_same]
      show w'.ownsRow _ _ _ _ (s.stack ++ [k]).length _
      rw [List.length_append, List.length_singleton]
      exact this
    · rw [upd_other _ _ e, upd_other _ _ e, upd_other _ _ e] at this
      rw [upd_other _ _ e]
      have h2 : TjM.row { s with stack := s.stack ++ [k] } i = TjM.row s i := by unfold TjM.row; rw [if_neg e, if_neg e]
      rw [h2]; exact this
  · refine ownsRow_setCell_below (a := ⟨W, 3, none⟩) ?_ hf.lt.2.2 _
    have e : (List.range s.parts.length).map (upd v 100 sv) = (List.range s.parts.length).map v := List.map_congr_left (fun i hi => upd_other _ _ (by have := List.mem_range.1 hi; omega))
    show w'.ownsRow _ _ _ _ s.parts.length ((List.range s.parts.length).map (upd v 100 sv))
    rw [e]; exact hT
/-- A part is laid by: its row was made (w2), the table of the parts has grown (w'). -/
theorem TjMem.parted (h : TjMem n w w1 O A B W base s v pv wr) (hf : TjFix n l w w1 O A B W base a c) (hp : s.parts.length < 100) {w2 : World} {p : List Nat} {nv pv' : Value} (hb : Below wr.heap.size wr w2) (ho : w2.ownsRow base 3 1 nv p.length (intVals (GrM.ints p))) (hn : ∀ g, nv.ownBlock = some g → wr.heap.size ≤ g)
    (hg : w2.grownBy w' pv.ownBlock) (ht : w'.ownsRow base 23 1 pv' (s.parts.length + 1) ((List.range s.parts.length).map v ++ [nv])) :
    TjMem n w w1 O A B W base { s with parts := s.parts ++ [p] } (upd v s.parts.length nv) pv' (w'.setCell ⟨W, 4, none⟩ pv') := by
  have hT := ownsRow_below h.tab hb
  have hrow : ∀ q, pv.ownBlock = some q → base ≤ q := fun q hq => (h.tab.lt q hq).1
  have hk2 := h.kept.below hb
  have hk := hk2.grown hg hrow
  have hF2 := Fam.fresh h.fam (k := s.parts.length) ho hb hn
  have hne : ∀ {b t C}, b < base → Blk w2 b t C → Blk w' b t C := fun hb hB => Blk.grown hB hg (fun e => by have := hrow _ e; omega)
  have bW := hne hf.lt.2.2 (h.blk.after hb)
  have bA : ITab w' A n _ := hne hf.lt.1 (Blk.after h.wt hb)
  have bB : ITab w' B n _ := hne hf.lt.2.1 (Blk.after h.lt hb)
  refine ⟨((h.below.trans (hb.mono h.below.size)).grown hg (Nat.le_trans hf.le.2.2.2 hk2.size) (fun q hq => Nat.le_trans hf.le.2.2.2 (hrow q hq))).setCell hf.le.2.2.1 _, hk.set (Or.inr (Or.inr rfl)) _, ?_, Blk.other bA (Ne.symm h.neA) _, Blk.other bB (Ne.symm h.neB) _, ?_, ?_⟩
  · have := bW.set 4 pv'
    rw [upd_other _ _ (by omega)]
    exact this
  · refine ⟨fun i hi => ownsRow_setCell_below ?_ hf.lt.2.2 _, hF2.apart⟩
    have hi2 := tj_far hT hg (hF2.own i hi) (by decide)
    by_cases e : i = s.parts.length
    · subst e
      rw [upd_same, upd_same, upd_same] at hi2
      rw [upd_same]
      have h2 : TjM.row { s with parts := s.parts ++ [p] } s.parts.length = p := by
        unfold TjM.row
        rw [if_neg (by omega)]; simp
      rw [h2]; exact hi2
    · rw [upd_other _ _ e, upd_other _ _ e, upd_other _ _ e] at hi2
      rw [upd_other _ _ e]
      have h2 : TjM.row { s with parts := s.parts ++ [p] } i = TjM.row s i := by
        unfold TjM.row
        split
        · rfl
        · dsimp only
          by_cases hl : i < s.parts.length
          · rw [List.getElem?_append_left hl]
          · rw [List.getElem?_eq_none (by simp; omega), List.getElem?_eq_none (by omega)]
      rw [h2]; exact hi2
  · refine ownsRow_setCell_below (a := ⟨W, 4, none⟩) ?_ hf.lt.2.2 _
    show w'.ownsRow _ _ _ _ (s.parts ++ [p]).length ((List.range (s.parts ++ [p]).length).map (upd v s.parts.length nv))
    rw [List.length_append, List.length_singleton, List.range_succ, List.map_append, List.map_singleton, upd_same]
    have e : (List.range s.parts.length).map (upd v s.parts.length nv) = (List.range s.parts.length).map v := List.map_congr_left (fun i hi => upd_other _ _ (by have := List.mem_range.1 hi; omega))
    rw [e]; exact ht
/-- The stack is cut. -/
theorem TjMem.cut (h : TjMem n w w1 O A B W base s v pv wr) (hf : TjFix n l w w1 O A B W base a c) (hp : s.parts.length ≤ 100) {m g cap : Nat} (hm : m ≤ s.stack.length) (hv : v 100 = .slice (some ⟨g, 0, none⟩) s.stack.length cap) :
    TjMem n w w1 O A B W base { s with stack := s.stack.take m } (upd v 100 (.slice (some ⟨g, 0, none⟩) m cap)) pv (wr.setCell ⟨W, 3, none⟩ (.slice (some ⟨g, 0, none⟩) m cap)) := by
  have ho := h.fam.own 100 (by omega)
  rw [hv] at ho
  have ho2 : wr.ownsRow base 3 1 (.slice (some ⟨g, 0, none⟩) m cap) m (intVals (GrM.ints (s.stack.take m))) := by
    have e : TjM.row s 100 = s.stack := rfl
    rw [e] at ho
    have := ownsRow_front ho hm
    have e2 : (intVals (GrM.ints s.stack)).take (m * 1) = intVals (GrM.ints (s.stack.take m)) := by
      unfold intVals GrM.ints
      rw [Nat.mul_one, ← List.map_take, ← List.map_take]
    rwa [e2] at this
  have hF := Fam.turn h.fam (k := 100) (by omega) ho2 (by rw [hv]; rfl)
  refine ⟨h.below.setCell hf.le.2.2.1 _, h.kept.set (Or.inr (Or.inr rfl)) _, ?_, Blk.other h.wt (Ne.symm h.neA) _, Blk.other h.lt (Ne.symm h.neB) _, ?_, ?_⟩
  · have := h.blk.set 3 (.slice (some ⟨g, 0, none⟩) m cap)
    rw [upd_same]
    exact this
  · refine ⟨fun i hi => ownsRow_setCell_below ?_ hf.lt.2.2 _, hF.apart⟩
    have hi2 := hF.own i hi
    by_cases e : i = 100
    · subst e
      rw [upd_same, upd_same, upd_same] at hi2
      rw [upd_same]
      show wr.ownsRow _ _ _ _ (s.stack.take m).length _
      rw [List.length_take, Nat.min_eq_left hm]
      exact hi2
    · rw [upd_other _ _ e, upd_other _ _ e, upd_other _ _ e] at hi2
      rw [upd_other _ _ e]
      have h2 : TjM.row { s with stack := s.stack.take m } i = TjM.row s i := by unfold TjM.row; rw [if_neg e, if_neg e]
      rw [h2]; exact hi2
  · refine ownsRow_setCell_below (a := ⟨W, 3, none⟩) ?_ hf.lt.2.2 _
    have e : (List.range s.parts.length).map (upd v 100 (.slice (some ⟨g, 0, none⟩) m cap)) = (List.range s.parts.length).map v := List.map_congr_left (fun i hi => upd_other _ _ (by have := List.mem_range.1 hi; omega))
    show wr.ownsRow _ _ _ _ s.parts.length ((List.range s.parts.length).map (upd v 100 _))
    rw [e]; exact h.tab
end
end
end
section
open Go.RowKit Go.Lib

theorem IntsM.idx_atJ {l : List Int} (hnd : l.Nodup) {j : Nat} (hj : j < l.length) : IntsM.idx l l[j] = j := by
  have : l.findIdx (fun y => l[j] == y) = j := by
    rw [List.findIdx_eq hj]
    refine ⟨by simp, fun i hi => ?_⟩
    have := List.pairwise_iff_getElem.1 (List.nodup_iff_pairwise_ne.1 hnd) i j (by omega) hj hi
    simpa using fun h => this h.symm
  unfold IntsM.idx IntsM.find
  rw [this, if_pos hj]
theorem GrM.ints_nodup {l : List Nat} (h : l.Nodup) : (GrM.ints l).Nodup := by
  unfold GrM.ints
  rw [List.nodup_iff_pairwise_ne, List.pairwise_map]
  exact (List.nodup_iff_pairwise_ne.1 h).imp (fun h e => h (by omega))
theorem TjM.idx_k {n : Nat} {l : List EgM} {G : List Nat} {s t : TjSt} {k i : Nat} (h : TjM.Mid n l G s k i t) : IntsM.idx (GrM.ints t.stack) (k : Int) = (s.stack.length : Int) ∧ s.stack.length < t.stack.length := by
  obtain ⟨_, _, a, _, hst⟩ := h.idx
  have hlt : s.stack.length < t.stack.length := by rw [hst]; simp
  have hlt2 : s.stack.length < (GrM.ints t.stack).length := by unfold GrM.ints; rw [List.length_map]; exact hlt
  have e : (GrM.ints t.stack)[s.stack.length] = (k : Int) := by
    unfold GrM.ints
    simp [hst]
  have := IntsM.idx_atJ (GrM.ints_nodup h.inv.stnd) hlt2
  rw [e] at this
  exact ⟨this, hlt⟩
theorem TjM.stack_at {n : Nat} {l : List EgM} {G : List Nat} {s t : TjSt} {k i O A B W base : Nat} {w w1 wr : World} {v : Nat → Value} {pv : Value} (h : TjM.Mid n l G s k i t) (hM : TjMem n w w1 O A B W base t v pv wr) :
    ∃ sg scap, v 100 = .slice (some ⟨sg, 0, none⟩) t.stack.length scap ∧ IntsAt wr (some ⟨sg, 0, none⟩) (GrM.ints t.stack) ∧ t.stack.length ≤ scap ∧ scap ≤ 9223372036854775807 := by
  have ho : wr.ownsRow base 3 1 (v 100) t.stack.length (intVals (GrM.ints t.stack)) := hM.fam.own 100 (by omega)
  have hpos := (TjM.idx_k h).2
  obtain ⟨ao, cap, e, _, hat, _, _⟩ := IntsAt.own ho
  rcases ho.2 with ⟨_, h2⟩ | ⟨g, cap', cur, h1, h2, h3, h4, h5, _⟩
  · omega
  · rw [h1] at e
    injection e with e1 e2 e3
    subst e1
    unfold maxLen at h5
    exact ⟨g, cap', h1, hat, h4, by omega⟩
theorem TjM.sort_ints (l : List Nat) : (GrM.ints l).mergeSort (fun x y => decide (x ≤ y)) = GrM.ints (TjM.sortN l) := by
  unfold TjM.sortN GrM.ints
  rw [List.map_mergeSort (s := fun x y : Int => decide (x ≤ y))]
  intro a _ b _
  rw [Bool.eq_iff_iff, decide_eq_true_iff, decide_eq_true_iff]
  omega
/-- What a visit leaves. -/
def TjVisited (n : Nat) (l : List EgM) (w w1 : World) (O A B W base : Nat) (s : TjSt) (k : Nat) (e : Ending) (w' : World) : Prop :=
  e = .returned (.tuple #[]) ∧ ∃ s' v' pv', TjM.Run n l s k none s' ∧ TjMem n w w1 O A B W base s' v' pv' w'
set_option maxRecDepth 20000 in
set_option maxHeartbeats 16000000 in
theorem visit_any {n : Nat} {l : List EgM} {w w1 : World} {O A B W base : Nat} {a : Nat → Option Addr} {c : Nat → Nat} (hf : TjFix n l w w1 O A B W base a c) (hn : n ≤ 60) :
    ∀ (m : Nat) (s : TjSt) (v : Nat → Value) (pv : Value) (wr : World) (k : Nat) (G : List Nat), TjM.white n s ≤ m → TjMem n w w1 O A B W base s v pv wr → TjM.Inv n l G s → s.when k = 0 → k < n → (∀ g ∈ G, TjM.R n l g k) →
    Calls Tryz.prog 135 #[.pointer (some ⟨W, 0, none⟩), .int .i64 (k : Int)] wr (TjVisited n l w w1 O A B W base s k) := by
  obtain ⟨i0, hi0, hz0, hz1, hz2⟩ := info_parts Tryz.infoIntG
  obtain ⟨j0, hj0, hy0, hy1, hy2⟩ := info_parts Tryz.infoRows
  intro m
  induction m with
  | zero =>
    intro s v pv wr k G hm _ _ h0 hk _
    have := TjM.white_enter s hk h0
    omega
  | succ m ih =>
  intro s v pv wr k G hm hM hI h0 hk hG
  have IH := box ih
  have HI := box hI; have HG := box hG; have HF := box hf; have H0 := box h0; have HMm := box hm
  have hct := hI.ct
  have htime : s.time + 1 ≤ 60 := by
    have := TjM.white_enter s hk h0
    omega
  have H1 := box (hM.timed hf (s.time + 1))
  have HStk : Box (s.stack.length ≤ 60) := ⟨hI.stack_len hn⟩
  have HPl : Box (s.parts.length ≤ 100) := ⟨by have := hI.parts_len; omega⟩
  have c5 := hM.blk.cell (i := 5) rfl
  have z5 := hM.blk.frozen 5
  clear hm hI hG hf h0 ih hM hct
  go_enter Tryz.func135, Tryz.ntmps135
  go_upto_region 1 with (fail)
  rw [show ((s.time : Int) + 1) = ((s.time + 1 : Nat) : Int) from by omega]
  generalize hT : s.time + 1 = T at *
  refine name_world (fun X => TjMem n w w1 O A B W base { s with time := T } v pv X) H1.out ?_
  rintro W1 hM1
  have HM1 := box hM1
  have c1 := hM1.blk.cell (i := 1) rfl
  have c2 := hM1.blk.cell (i := 2) rfl
  have c3 := hM1.blk.cell (i := 5) rfl
  have ca := hM1.wt.cell hk
  have cb := hM1.lt.cell hk
  have hAB := HF.out.ne
  have hBA := Ne.symm HF.out.ne
  have za := Blk.frozen hM1.wt k
  have zb := Blk.frozen hM1.lt k
  have HTT := box hT
  have H2 := box ((hM1.whened HF.out k T).lowered HF.out k T)
  clear hM1 H1 c5 z5 hT
  go_region
  clear ca cb za zb c1 c2 c3 hAB hBA
  go_upto_region 2 with (fail)
  refine name_world (fun X => TjMem n w w1 O A B W base ⟨upd s.when k T, upd s.low k T, s.stack, s.parts, T⟩ v pv X) H2.out.drew ?_
  rintro W2 hM2
  have HM2 := box hM2
  have d3 := hM2.blk.cell (i := 3) rfl
  have hs2 := hM2.kept.size
  have hown : (W2.alloc (.cells #[.int .i64 (k : Int)] 3)).ownsRow base 3 1 (v 100) s.stack.length (intVals (GrM.ints s.stack)) := (hM2.fam.own 100 (by omega)).alloc _
  have hst := HStk.out
  clear hM2 H2 HM1
  go_wp2_with (at_builtin; go_must (refine wpList_append_lies _ rfl _ _ 23 rfl base 3 i0 _ 1 8 Tryz.underlying23 hi0 hz0 hz1 hz2 rfl (by decide) _ _ _ rfl hown ⟨W2.heap.size, 0, none⟩ 1 1 [.int .i64 (k : Int)] rfl rfl (cells_new W2 [.int .i64 (k : Int)] 3) (by simp [Value.oneCell']) (by decide) (by unfold maxLen; omega) (by omega) (by simp; omega) (W2.heap.size + 1) (by simp) ?_))
  intro gg gcap w7 hown7 hgrow7 hat7 hlt7
  have e1 : intVals (GrM.ints s.stack) ++ [.int .i64 (k : Int)] = intVals (GrM.ints (s.stack ++ [k])) := by unfold GrM.ints intVals; simp
  rw [e1] at hown7
  have HE := box ((HM2.out.alloc HF.out (.cells #[.int .i64 (k : Int)] 3)).pushed HF.out HPl.out hown7 hgrow7 (by
    rcases hat7 with h | h
    · exact Or.inl h.symm
    · right; simp [Value.ownBlock, h]))
  have hrow : ∀ q, (v 100).ownBlock = some q → base ≤ q := fun q hq => ((HM2.out.fam.own 100 (by omega)).lt q hq).1
  have bW := Blk.grown (HM2.out.blk.alloc (.cells #[.int .i64 (k : Int)] 3)) hgrow7 (fun e => by have := hrow W e; have := HF.out.lt.2.2; omega)
  have f3 := bW.cell (i := 3) rfl
  have z3 := bW.frozen 3
  clear hown7 hgrow7 hat7 hlt7 hown bW hrow e1 d3
  go_upto_region 3 with (fail)
  refine name_world (fun X => ∃ v', TjMem n w w1 O A B W base (TjM.enter s k) v' pv X) ⟨_, by have := HE.out; rw [← HTT.out] at this; exact this⟩ ?_
  rintro W3 ⟨v3, hM3⟩
  clear HE f3 z3 HTT HM2 hs2 hst
  have HR0 := box (HF.out.rows W3 hM3.kept k hk)
  have HRows : Box (∀ wx, Kept A B W base w1 wx → IntsAt wx (a k) (GrM.ints (GrM.next n l k))) := ⟨fun wx h => (HF.out.rows wx h k hk).2⟩
  have g0 := hM3.blk.cell (i := 0) rfl
  have g1 := HR0.out.1
  have HM3 := box hM3
  clear hM3 HR0
  obtain ⟨ak, HAk⟩ : ∃ x, Box (a k = x) := ⟨_, ⟨rfl⟩⟩
  obtain ⟨ck, HCk⟩ : ∃ x, Box (c k = x) := ⟨_, ⟨rfl⟩⟩
  obtain ⟨r, HR⟩ : ∃ x, Box (GrM.next n l k = x) := ⟨_, ⟨rfl⟩⟩
  obtain ⟨L, HL⟩ : ∃ x, Box (r.length = x) := ⟨_, ⟨rfl⟩⟩
  rw [HAk.out, HCk.out, HR.out, HL.out] at g1
  rw [HAk.out, HR.out] at HRows
  have hL60 : L ≤ 60 := by have := GrM.next_len n l k; rw [HR.out, HL.out] at this; omega
  go_wp2_with fail
  go_loopw [53] (fun t53 wx => ∃ (i : Nat) (t : TjSt) (v2 : Nat → Value) (pv2 : Value), i ≤ L ∧ t53 = .int .i64 (i : Int) ∧ Box (TjM.Run n l s k (some i) t) ∧ Box (TjMem n w w1 O A B W base t v2 pv2 wx)) (fun t53 _ => L - (RowKit.intOf t53).toNat)
  case atStart => exact ⟨0, _, v3, pv, Nat.zero_le _, rfl, ⟨.start s k⟩, HM3⟩
  case round =>
    obtain ⟨i, t, v2, pv2, hi, rfl, HRun, HM⟩ := hrel
    have HMid : Box (TjM.Mid n l G s k i t) := ⟨TjM.run_keeps HRun.out G HI.out H0.out hk HG.out⟩
    clear g0 g1 HM3
    by_cases hlt : i < L
    · have hir : i < (GrM.next n l k).length := by rw [HR.out, HL.out]; exact hlt
      have hir2 : i < (GrM.ints r).length := by rw [← HR.out]; simpa [GrM.ints] using hir
      obtain ⟨b, off, hak, hb, hrow⟩ := (HRows.out _ HM.out.kept).resolve_left (by intro h; rw [h] at hir2; simp at hir2)
      have hci := hrow i hir2
      have hxn := (TjM.nextAt hir).1
      have hxe : (GrM.ints r)[i] = (((GrM.next n l k)[i] : Nat) : Int) := by simp only [← HR.out]; simp [GrM.ints]
      rw [hxe] at hci
      obtain ⟨x, HX⟩ : ∃ x, Box ((GrM.next n l k)[i] = x) := ⟨_, ⟨rfl⟩⟩
      rw [HX.out] at hci hxn
      subst hak
      have c1 := HM.out.blk.cell (i := 1) rfl
      have cw := HM.out.wt.cell hxn
      clear hrow hir2 hxe hb
      by_cases hw : t.when x = 0
      · rw [hw] at cw
        go_wp2_with fail
        have hmid := HMid.out
        refine (IH.out t v2 pv2 wr x (k :: G) ?_ HM.out hmid.inv hw hxn ?_).mono ?_
        · have := hmid.inv.ct
          have := hmid.inv.tm k
          have := hmid.whk
          have := HI.out.ct
          have := HMm.out
          omega
        · intro g hg
          have he := (TjM.nextAt hir)
          rw [HX.out] at he
          rcases List.mem_cons.1 hg with rfl | hg
          · exact TjM.R.edge he.1 he.2
          · exact (HG.out g hg).trans (TjM.R.edge he.1 he.2)
        rintro e w5 ⟨rfl, t', v', pv', hrun', hM'⟩
        have HN : Box (TjM.Run n l s k (some (i + 1)) (TjM.lower t' k (t'.low x))) := ⟨by
          have h1 := TjM.Run.white HRun.out hir (by rw [HX.out]; exact hw) (by rw [HX.out]; exact hrun')
          rw [HX.out] at h1; exact h1⟩
        have c2 := hM'.blk.cell (i := 2) rfl
        have ck' := hM'.lt.cell hk
        have cx' := hM'.lt.cell hxn
        have zk := Blk.frozen hM'.lt k
        have HE := box (hM'.lowered HF.out k (min (t'.low k) (t'.low x)))
        clear hmid hw hrun' hM' c1 cw hci hir HM HMid HRun HX
        have HS : Box (TjM.lower t' k (t'.low x) = { t' with low := upd t'.low k (min (t'.low k) (t'.low x)) }) := ⟨rfl⟩
        generalize TjM.lower t' k (t'.low x) = tn at *
        generalize t'.low k = lk at *
        generalize t'.low x = lx at *
        have hm : ((min lk lx : Nat) : Int) = min (lk : Int) (lx : Int) := by omega
        rw [hm] at HE
        clear hm
        go_wp2_with fail
        go_region
        all_goals
          go_wp2_with fail
          go_roundw
          case rel => exact ⟨i + 1, _, v', pv', by omega, by go_num, HN, ⟨by rw [HS.out]; exact HE.out.drew⟩⟩
          case measure => simp [RowKit.intOf]; omega
      · have q0 : ((t.when x : Int) == 0) = false := by simp; omega
        have q0n : ((t.when x : Int) = 0) = False := by simp; omega
        obtain ⟨sao, scap, hsv, hsl, hsat, _, _⟩ := IntsAt.own (l := GrM.ints t.stack) (HM.out.fam.own 100 (by omega))
        have c3 := HM.out.blk.cell (i := 3) rfl
        rw [hsv] at c3
        have HSat := box hsat
        have hl60 : (GrM.ints t.stack).length ≤ 60 := by
          have := HMid.out.inv.stack_len hn
          unfold GrM.ints; rw [List.length_map]; exact this
        clear hsv hsl hsat
        go_wp2_with fail
        refine (contains_ints (GrM.ints t.stack) (x : Int) sao scap wr HSat.out (by omega)).mono ?_
        rintro e w5 ⟨rfl, rfl⟩
        have hmem : ((x : Int) ∈ GrM.ints t.stack) ↔ x ∈ t.stack := by
          unfold GrM.ints
          rw [List.mem_map]
          exact ⟨fun ⟨y, h1, h2⟩ => (by omega : y = x) ▸ h1, fun h => ⟨x, h, rfl⟩⟩
        by_cases hin : x ∈ t.stack
        · rw [decide_eq_true (hmem.2 hin)]
          have HN : Box (TjM.Run n l s k (some (i + 1)) (TjM.lower t k (t.when x))) := ⟨by
            have h1 := TjM.Run.on HRun.out hir (by rw [HX.out]; exact hw) (by rw [HX.out]; exact hin)
            rw [HX.out] at h1; exact h1⟩
          have c2 := HM.out.blk.cell (i := 2) rfl
          have ck' := HM.out.lt.cell hk
          have zk := Blk.frozen HM.out.lt k
          have HE := box (HM.out.lowered HF.out k (min (t.low k) (t.when x)))
          have HS : Box (TjM.lower t k (t.when x) = { t with low := upd t.low k (min (t.low k) (t.when x)) }) := ⟨rfl⟩
          clear hmem hin hw q0 q0n c3 hci hir HMid HRun HX HSat HM
          generalize TjM.lower t k (t.when x) = tn at *
          generalize t.low k = lk at *
          generalize t.when x = lx at *
          have hm : ((min lk lx : Nat) : Int) = min (lk : Int) (lx : Int) := by omega
          rw [hm] at HE
          clear hm
          go_wp2_with fail
          go_region
          all_goals
            go_wp2_with fail
            go_roundw
            case rel => exact ⟨i + 1, _, v2, pv2, by omega, by go_num, HN, ⟨by rw [HS.out]; exact HE.out.drew⟩⟩
            case measure => simp [RowKit.intOf]; omega
        · rw [decide_eq_false (fun h => hin (hmem.1 h))]
          have HN : Box (TjM.Run n l s k (some (i + 1)) t) := ⟨by
            exact TjM.Run.off HRun.out hir (by rw [HX.out]; exact hw) (by rw [HX.out]; exact hin)⟩
          clear hmem hin hw q0 q0n c3 hci hir HMid HRun HX HSat
          go_wp2_with fail
          go_roundw
          case rel => exact ⟨i + 1, t, v2, pv2, by omega, by go_num, HN, HM⟩
          case measure => simp [RowKit.intOf]; omega
    · obtain rfl : i = L := by omega
      have HRunL : Box (TjM.Run n l s k (some (GrM.next n l k).length) t) := ⟨by rw [HR.out, HL.out]; exact HRun.out⟩
      have HMidL : Box (TjM.Mid n l G s k (GrM.next n l k).length t) := ⟨by rw [HR.out, HL.out]; exact HMid.out⟩
      have HFin := box (TjM.Run.fin HRunL.out)
      clear HRun HMid HRows HR HL hL60 hlt hi HRunL IH HI HG HMm
      have c1 := HM.out.blk.cell (i := 1) rfl
      have c2 := HM.out.blk.cell (i := 2) rfl
      have cw := HM.out.wt.cell hk
      have cl := HM.out.lt.cell hk
      by_cases hc : t.low k = t.when k
      · have HLv : Box (TjM.leave t k = { t with parts := t.parts ++ [TjM.sortN (t.stack.drop s.stack.length)], stack := t.stack.take s.stack.length }) := ⟨by
          unfold TjM.leave
          rw [if_pos hc, HMidL.out.idx.1]⟩
        rw [hc] at cl
        have q2 : ((t.when k : Int) == (t.when k : Int)) = true := by simp
        clear hc
        go_wp2_with fail
        go_quiet (fail)
        go_upto_region 13 with (fail)
        refine name_world (fun X => TjMem n w w1 O A B W base t v2 pv2 X) (HM.out.drewN _) ?_
        rintro W8 hM8
        have HM8 := box hM8
        obtain ⟨sg, scap, hsv, hsat, hsg⟩ : ∃ sg scap, v2 100 = .slice (some ⟨sg, 0, none⟩) t.stack.length scap ∧ IntsAt W8 (some ⟨sg, 0, none⟩) (GrM.ints t.stack) ∧ t.stack.length ≤ scap ∧ scap ≤ 9223372036854775807 := TjM.stack_at HMidL.out hM8
        have c3 := hM8.blk.cell (i := 3) rfl
        rw [hsv] at c3
        have HSv := box hsv; have HSat := box hsat
        have hix := index_ints (GrM.ints t.stack) (k : Int) (some ⟨sg, 0, none⟩) scap W8 hsat (by
          have := HMidL.out.inv.stack_len hn
          unfold GrM.ints; rw [List.length_map]; omega)
        rw [show (GrM.ints t.stack).length = t.stack.length by simp [GrM.ints], (TjM.idx_k HMidL.out).1] at hix
        have hPS := (TjM.idx_k HMidL.out).2
        have hS60 := HMidL.out.inv.stack_len hn
        obtain ⟨SL, HSL⟩ : ∃ x, Box (t.stack.length = x) := ⟨_, ⟨rfl⟩⟩
        obtain ⟨P, HP⟩ : ∃ x, Box (s.stack.length = x) := ⟨_, ⟨rfl⟩⟩
        rw [HSL.out] at HSv hix hPS hsg hS60 c3
        rw [HP.out] at HLv hix hPS
        have HIx := box hix
        clear hM8 hsv hsat hix HM cw cl c1 c2 q2
        go_wp2_with fail
        refine HIx.out.mono ?_
        rintro e w9 ⟨rfl, rfl⟩
        have p1 : decide ((P : Int) < 0) = false := decide_eq_false (by omega)
        have p2 : decide ((SL : Int) < (P : Int)) = false := decide_eq_false (by omega)
        have hDl : (GrM.ints (t.stack.drop P)).length = SL - P := by unfold GrM.ints; rw [List.length_map, List.length_drop, HSL.out]
        have hDat : IntsAt W8 (some ⟨sg, P, none⟩) (GrM.ints (t.stack.drop P)) := by
          obtain ⟨b, off, hbo, hbl, hrow⟩ := HSat.out.resolve_left (by intro h; have := congrArg List.length h; simp [GrM.ints, HSL.out] at this; omega)
          injection hbo with hbo
          injection hbo with hb1 hb2
          subst hb1; subst hb2
          refine Or.inr ⟨sg, P, rfl, hbl, fun q hq => ?_⟩
          have := hrow (P + q) (by simp only [GrM.ints, List.length_map, List.length_drop] at hq ⊢; omega)
          rw [show 0 + (P + q) = P + q by omega] at this
          rw [this]
          simp [GrM.ints]
        have hcl := cloneInts_pos (GrM.ints (t.stack.drop P)) (some ⟨sg, P, none⟩) (scap - P) W8 hDat (by omega) (by omega)
        rw [hDl] at hcl
        have HCl := box hcl
        have HDl := box hDl
        clear hDat hcl hDl
        go_wp2_with fail
        refine HCl.out.mono ?_
        rintro e w10 ⟨⟨gn, cn, rfl, hg1, hg2, hown⟩, hb10⟩
        have hso := sort_ints (GrM.ints (t.stack.drop P)) gn cn W8.heap.size 3 w10 (by rw [HDl.out]; exact hown) (by rw [HDl.out]; omega)
        rw [HDl.out, TjM.sort_ints] at hso
        have HSo := box hso
        have HB10 := box hb10
        clear HCl hown hso hb10 hg2
        go_wp2_with fail
        refine HSo.out.mono ?_
        rintro e w11 ⟨rfl, hown, hgr⟩
        have hb11 : Below W8.heap.size W8 w11 := HB10.out.grown hgr HB10.out.size (fun q hq => by injection hq with hq; omega)
        have hs8 := HM8.out.kept.size
        have hs11 := hb11.size
        have HSn : Box ((TjM.sortN (t.stack.drop P)).length = SL - P) := ⟨by rw [(TjM.sortN_perm _).length_eq, List.length_drop, HSL.out]⟩
        have HNv : Box ((w11.alloc (.cells #[.slice (some ⟨gn, 0, none⟩) (SL - P) cn] 23)).ownsRow base 3 1 (.slice (some ⟨gn, 0, none⟩) (SL - P) cn) (TjM.sortN (t.stack.drop P)).length (intVals (GrM.ints (TjM.sortN (t.stack.drop P))))) := ⟨by
          rw [HSn.out]; exact (ownsRow_mono hown hs8).alloc _⟩
        have hT := (ownsRow_below HM8.out.tab hb11).alloc (.cells #[.slice (some ⟨gn, 0, none⟩) (SL - P) cn] 23)
        have hPL : t.parts.length ≤ 60 := by have := HMidL.out.inv.parts_len; omega
        have HBa := box (hb11.alloc hs11 (.cells #[.slice (some ⟨gn, 0, none⟩) (SL - P) cn] 23))
        have bW := HM8.out.blk.after hb11
        have d4 := bW.cell (i := 4) rfl
        clear hown hgr HSo HB10 bW HIx p1 p2
        go_wp2_with (at_builtin; go_must (refine wpList_append_lies _ rfl _ _ 49 rfl base 23 j0 _ 1 24 Tryz.underlying49 hj0 hy0 hy1 hy2 rfl (by decide) _ _ _ rfl hT ⟨w11.heap.size, 0, none⟩ 1 1 [.slice (some ⟨gn, 0, none⟩) (SL - P) cn] rfl rfl (cells_new w11 [.slice (some ⟨gn, 0, none⟩) (SL - P) cn] 23) (by simp [Value.oneCell']) (by decide) (by unfold maxLen; omega) (by omega) (by simp; omega) (w11.heap.size + 1) (by simp) ?_))
        intro gg2 gcap2 w12 hown12 hgrow12 hat12 hlt12
        have HE := box (HM8.out.parted HF.out (by omega) HBa.out HNv.out (fun q hq => by simp [Value.ownBlock] at hq; omega) hgrow12 hown12)
        have hrow : ∀ q, pv2.ownBlock = some q → base ≤ q := fun q hq => (HM8.out.tab.lt q hq).1
        have bW := Blk.grown (HM8.out.blk.after HBa.out) hgrow12 (fun e => by have := hrow W e; have := HF.out.lt.2.2; omega)
        have f4 := bW.cell (i := 4) rfl
        have z4 := bW.frozen 4
        clear hown12 hgrow12 hat12 hlt12 hT bW hrow d4 HBa HNv hb11
        go_upto_region 17 with (fail)
        refine name_world _ HE.out ?_
        rintro W13 hM13
        have HM13 := box hM13
        have c3 := hM13.blk.cell (i := 3) rfl
        have z3 := hM13.blk.frozen 3
        rw [upd_other _ _ (by omega), HSv.out] at c3
        have p1 : decide ((P : Int) < 0) = false := decide_eq_false (by omega)
        have p2 : decide ((scap : Int) < (P : Int)) = false := decide_eq_false (by omega)
        have HCut := box (hM13.cut HF.out (m := P) (g := sg) (cap := scap) (by simp; omega) (by show P ≤ t.stack.length; rw [HSL.out]; omega) (by rw [upd_other _ _ (by omega), HSv.out]; show _ = Value.slice _ t.stack.length _; rw [HSL.out]))
        clear hM13 HE f4 z4
        go_wp2_with fail
        refine bodyPost_end (results_none rfl _ _ _) rfl ⟨rfl, TjM.leave t k, upd (upd v2 t.parts.length (.slice (some ⟨gn, 0, none⟩) (SL - P) cn)) 100 (.slice (some ⟨sg, 0, none⟩) P scap), .slice (some ⟨gg2, 0, none⟩) (t.parts.length + 1) gcap2, HFin.out, ?_⟩
        rw [HLv.out]
        exact HCut.out
      · have HLv : Box (TjM.leave t k = t) := ⟨by unfold TjM.leave; rw [if_neg hc]⟩
        have q0 : ((t.low k : Int) == (t.when k : Int)) = false := by simp; omega
        have q1 : ((t.low k : Int) = (t.when k : Int)) = False := by simp; omega
        clear hc
        generalize t.low k = lk at *
        generalize t.when k = wk at *
        go_wp2_with fail
        go_quiet (fail)
        go_wp2_with fail
        refine bodyPost_end (results_none rfl _ _ _) rfl ⟨rfl, t, v2, pv2, by have := HFin.out; rwa [HLv.out] at this, ?_⟩
        exact HM.out.drewN _
end
section
section
open Go.RowKit Go.Lib Go.Shelf Go.Sort

namespace Sort1
section
variable {α : Type} [Inhabited α] {enc : α → Value} {w : World} {g : Nat}
theorem holds {l : List α} {base n cap : Nat} {e : TypeId} (ho : w.ownsRow base e 1 (.slice (some ⟨g, 0, none⟩) n cap) n (l.map enc)) : Holds enc w g 0 l.toArray := by
  intro j hj
  have hj' : j < l.length := by simpa using hj
  have hn : n = l.length := by have := ho.1; rw [List.length_map] at this; omega
  subst hn
  refine ⟨?_, ho.frozenAt _⟩
  rw [Nat.zero_add, ho.cellAt j (by omega)]
  simp [hj']
theorem heap {n : Nat} {os : Array Obj} {cur : Array Value} {e : TypeId} {fr : Nat × Nat} (d : Array α) (hb : w.heap[g]? = some (.cells cur e fr)) :
    (grow (putRow enc (Sort.ahead w n) g 0 d) os).heap[g]? = some (.cells (putCells enc 0 d cur) e fr) := by
  have hg : g < w.heap.size := (Array.getElem?_eq_some_iff.1 hb).1
  rw [heap_grow_old _ _ (by simpa [putRow, mapBlock, Sort.ahead] using hg)]
  simp [putRow, mapBlock, Sort.ahead, Array.getElem?_modify, hb, onCells]
theorem grown {n : Nat} {os : Array Obj} (d : Array α) : w.grownBy (sortWorld enc w g 0 n d os) (some g) := by
  unfold sortWorld
  refine ⟨rfl, rfl, rfl, by simp [grow, putRow, mapBlock, Sort.ahead], fun k hk hne => ?_⟩
  rw [heap_grow_old _ _ (by simpa [putRow, mapBlock, Sort.ahead] using hk)]
  have : g ≠ k := fun e => hne (by rw [e])
  simp [putRow, mapBlock, Sort.ahead, Array.getElem?_modify, this]
theorem take_put (cur : Array Value) (ts : List α) (h : ts.length ≤ cur.size) : (putCells enc 0 ts.toArray cur).toList.take ts.length = ts.map enc := by
  apply List.ext_getElem?
  intro j
  by_cases hj : j < ts.length
  · rw [List.getElem?_take_of_lt hj, Array.getElem?_toList]
    simp [putCells, hj, show j < cur.size by omega]
  · rw [List.getElem?_take_eq_none (by omega), List.getElem?_eq_none (by simp; omega)]
theorem after {l l' : List α} {base n cap m : Nat} {e : TypeId} {os : Array Obj} (hl : l'.length = l.length) (ho : w.ownsRow base e 1 (.slice (some ⟨g, 0, none⟩) n cap) n (l.map enc)) :
    (sortWorld enc w g 0 m l'.toArray os).ownsRow base e 1 (.slice (some ⟨g, 0, none⟩) n cap) n (l'.map enc) := by
  have hn : n = l'.length := by have := ho.1; rw [List.length_map] at this; omega
  refine ⟨by rw [List.length_map]; omega, ?_⟩
  rcases ho.2 with ⟨h1, _⟩ | ⟨g', cap', cur, h1, h2, h3, h4, h5, h6, h7⟩
  · cases h1
  · cases h1
    exact .inr ⟨g, cap, _, rfl, h2, heap _ h3, h4, h5, by simp [putCells, h6], by rw [Nat.mul_one, hn]; exact take_put cur l' (by omega)⟩
end
end Sort1

theorem IntsAt.grown {w w' : World} {ao : Option Addr} {l : List Int} {row : Option Nat} (h : IntsAt w ao l) (hg : w.grownBy w' row) (hne : ∀ a, ao = some a → some a.block ≠ row) : IntsAt w' ao l := by
  rcases h with h | ⟨b, off, rfl, hb, hr⟩
  · exact Or.inl h
  · exact Or.inr ⟨b, off, rfl, Nat.lt_of_lt_of_le hb hg.size, fun k hk => hg.cell (hr k hk) (fun e => hne ⟨b, off, none⟩ rfl e)⟩
/-- The first of a part less the first of another one. -/
theorem partCmp_any (x y : List Int) (a b : Addr) (nx ny cx cy : Nat) (w : World) (hx : IntsAt w (some a) x) (hy : IntsAt w (some b) y) (h0 : 0 < x.length) (h1 : 0 < y.length) (hnx : nx = x.length) (hny : ny = y.length) (bx : 0 ≤ x[0] ∧ x[0] ≤ 1000) (by_ : 0 ≤ y[0] ∧ y[0] ≤ 1000) :
    Calls Tryz.prog 137 #[.slice (some a) nx cx, .slice (some b) ny cy] w fun e w' => e = .returned (.int .i64 (x[0] - y[0])) ∧ ∃ q, w' = w.drewN q := by
  obtain ⟨g, off, e1, _, hrx⟩ := hx.resolve_left (by intro h; rw [h] at h0; simp at h0)
  obtain ⟨g2, off2, e2, _, hry⟩ := hy.resolve_left (by intro h; rw [h] at h1; simp at h1)
  injection e1 with e1
  injection e2 with e2
  subst e1; subst e2
  have c0 := hrx 0 h0
  have d0 := hry 0 h1
  rw [Nat.add_zero] at c0 d0
  generalize x[0] = p at *
  generalize y[0] = q at *
  have hw : IntKind.i64.wrap (p - q) = p - q := by simp [IntKind.wrap, IntKind.bits, IntKind.signed]; omega
  have g1 : decide ((0 : Int) < (nx : Int)) = true := decide_eq_true (by omega)
  have g2 : decide ((0 : Int) < (ny : Int)) = true := decide_eq_true (by omega)
  have g3 : decide (0 < nx) = true := decide_eq_true (by omega)
  have g4 : decide (0 < ny) = true := decide_eq_true (by omega)
  clear hx hy hrx hry bx by_
  go_enter Tryz.func137, Tryz.ntmps137
  go_wp2_with fail
  go_quiet (fail)
  go_wp2_with fail
  go_ret
  exact ⟨rfl, _, rfl⟩
theorem tj_shape {w : World} {base e size n : Nat} {v : Value} {xs : List Value} (h : w.ownsRow base e size v n xs) : ∃ ao cap, v = .slice ao n cap := by
  rcases h.2 with ⟨h1, h2⟩ | ⟨g, cap, cur, h1, _⟩
  · exact ⟨none, 0, by rw [h1, h2]⟩
  · exact ⟨_, cap, h1⟩
theorem finRange_vals (m : Nat) : (List.finRange m).map Fin.val = List.range m := by
  apply List.ext_getElem
  · simp
  · intro i h1 h2
    simp
theorem partSort_any (P : List (List Nat)) (v : Nat → Value) (pv : Value) (base : Nat) (w : World) (hT : w.ownsRow base 23 1 pv P.length ((List.range P.length).map v))
    (hR : ∀ i (h : i < P.length), P[i] ≠ [] ∧ (∀ x ∈ P[i], x ≤ 1000) ∧ w.ownsRow base 3 1 (v i) (P[i]).length (intVals (GrM.ints P[i])))
    (hD : ∀ i j (hi : i < P.length) (hj : j < P.length), P[i][0]! = P[j][0]! → i = j) (hlen : P.length ≤ 1000) :
    Calls Tryz.prog 136 #[pv, .func (.func 137) #[] #[]] w fun e w' => e = .returned (.tuple #[]) ∧ ∃ I : List Nat, I.Perm (List.range P.length) ∧ (I.Pairwise fun i j => (P[i]!)[0]! < (P[j]!)[0]!) ∧ w'.ownsRow base 23 1 pv P.length (I.map v) ∧ w.grownBy w' pv.ownBlock := by
  obtain ⟨ao, cap, hpv⟩ := tj_shape hT
  by_cases h0 : P.length = 0
  · have hcon := AnyF.slices_SortFunc_none (P := Tryz.prog) (ρ := Tryz.sortPart_ren) { Tryz.sortPart with } ao cap (.func (.func 137) #[] #[]) w
    change Calls Tryz.prog 136 _ _ _ at hcon
    rw [h0] at hpv
    rw [hpv]
    refine hcon.mono ?_
    rintro e w' ⟨rfl, rfl⟩
    have h1 : P = [] := List.eq_nil_of_length_eq_zero h0
    subst h1
    rw [hpv] at hT
    exact ⟨rfl, [], by simp, List.Pairwise.nil, hT, World.grownBy.refl _ _⟩
  · have hpos : 0 < P.length := by omega
    haveI : Inhabited (Fin P.length) := ⟨⟨0, hpos⟩⟩
    rcases hT.2 with ⟨_, h2⟩ | ⟨g, cap', cur, h1, h2, h3, h4, h5⟩
    · omega
    have hT2 := hT
    rw [h1] at hT2 ⊢
    have hsl : ∀ i : Fin P.length, ∃ a c, v i.val = .slice (some a) (P[i.val]).length c ∧ some a.block ≠ some g ∧ IntsAt w (some a) (GrM.ints P[i.val]) := fun i => by
      obtain ⟨r1, _, r3⟩ := hR i.val i.isLt
      obtain ⟨a, c, e, _, hat, _, _⟩ := IntsAt.own r3
      cases a with
      | none =>
        rcases r3.2 with ⟨_, r4⟩ | ⟨g2, c2, cur2, r4, _⟩
        · exact absurd (List.eq_nil_of_length_eq_zero r4) r1
        · rw [r4] at e; cases e
      | some a =>
        refine ⟨a, c, by rw [e]; simp [GrM.ints], fun e2 => ?_, hat⟩
        rcases r3.2 with ⟨r4, _⟩ | ⟨g2, c2, cur2, r4, _, r5, _⟩
        · rw [r4] at e; cases e
        · rw [r4] at e
          injection e with e _ _
          injection e with e
          subst e
          injection e2 with e2
          dsimp only at e2
          subst e2
          rw [h3] at r5
          injection r5 with r5
          injection r5 with _ r6
          exact absurd r6 (by decide)
    have henc : (List.finRange P.length).map (fun i : Fin P.length => v i.val) = (List.range P.length).map v := by
      rw [← finRange_vals, List.map_map]; rfl
    have hcell : OneCell (fun i : Fin P.length => v i.val) := fun i => by
      obtain ⟨a, c, e, _⟩ := hsl i
      dsimp only
      rw [e]; rfl
    have hlt : ∀ x y : Fin P.length, ltOf (fun i j : Fin P.length => ((P[i.val][0]! : Nat) : Int) - ((P[j.val][0]! : Nat) : Int)) x y = decide (P[x.val][0]! < P[y.val][0]!) := fun x y => by
      unfold ltOf
      dsimp only
      rw [Bool.eq_iff_iff, decide_eq_true_iff, decide_eq_true_iff]; omega
    have hO : SWO (ltOf (fun i j : Fin P.length => ((P[i.val][0]! : Nat) : Int) - ((P[j.val][0]! : Nat) : Int))) := ⟨fun x => by rw [hlt]; simp, fun x y z h1 h2 => by rw [hlt] at *; rw [decide_eq_true_iff] at *; omega, fun x y z h1 h2 => by rw [hlt] at *; rw [decide_eq_false_iff_not] at *; omega⟩
    have eg : ∀ args w, (callFunc 137 args).run Tryz.prog w = .ok (.enter 137 args) w := enters_fn Tryz.func137 (by kernel_rfl) rfl
    have hho : w.ownsRow base 23 1 (.slice (some ⟨g, 0, none⟩) P.length cap') P.length ((List.finRange P.length).map fun i : Fin P.length => v i.val) := by rw [henc]; exact hT2
    have hcmp : CmpLays1 Tryz.prog 137 #[] (fun i : Fin P.length => v i.val) (fun i j : Fin P.length => ((P[i.val][0]! : Nat) : Int) - ((P[j.val][0]! : Nat) : Int)) g 0 (List.finRange P.length).toArray.size w := fun mm os dk _ x y => by
      obtain ⟨a, c, ea, na, ha⟩ := hsl x
      obtain ⟨b, c2, eb, nb, hb⟩ := hsl y
      obtain ⟨x1, x2, _⟩ := hR x.val x.isLt
      obtain ⟨y1, y2, _⟩ := hR y.val y.isLt
      have hx0 : 0 < (P[x.val]).length := List.length_pos_iff.2 x1
      have hy0 : 0 < (P[y.val]).length := List.length_pos_iff.2 y1
      have hgx : ∀ (l : List Nat) (h : 0 < l.length), (GrM.ints l)[0]'(by simpa [GrM.ints] using h) = ((l[0]! : Nat) : Int) := fun l h => by
        rw [getElem!_pos l 0 h]; simp [GrM.ints]
      have hbx : ∀ (l : List Nat) (h : 0 < l.length), (∀ x ∈ l, x ≤ 1000) → l[0]! ≤ 1000 := fun l h hl => by
        rw [getElem!_pos l 0 h]; exact hl _ (List.getElem_mem _)
      have hg := Sort1.grown (enc := fun i : Fin P.length => v i.val) (w := w) (g := g) (n := mm) (os := os) dk
      have hbx1 := hbx _ hx0 x2
      have hby1 := hbx _ hy0 y2
      have hcon := partCmp_any (GrM.ints P[x.val]) (GrM.ints P[y.val]) a b (P[x.val]).length (P[y.val]).length c c2 _ (ha.grown hg (fun a' e => by injection e with e; subst e; exact na)) (hb.grown hg (fun a' e => by injection e with e; subst e; exact nb)) (by simpa [GrM.ints] using hx0) (by simpa [GrM.ints] using hy0) (by simp [GrM.ints]) (by simp [GrM.ints]) (by rw [hgx _ hx0]; omega) (by rw [hgx _ hy0]; omega)
      rw [hgx _ hx0, hgx _ hy0] at hcon
      show Calls _ _ #[v x.val, v y.val] _ _
      rw [ea, eb]
      refine hcon.mono ?_
      rintro e w' ⟨rfl, q, rfl⟩
      exact ⟨rfl, q, #[], by rw [grow_empty]⟩
    have hcon := Any.slices_SortFunc_total (P := Tryz.prog) Tryz.sortPart (fun i : Fin P.length => v i.val) hcell _ hO 137 #[] g 0 cap' (List.finRange P.length).toArray w eg hcmp (Sort1.holds hho) (Array.getElem?_eq_some_iff.1 h3).1 (by simp; omega) (fun x y hx hy => by
      rw [hlt, decide_eq_false_iff_not] at hx hy
      exact Fin.ext (hD x.val y.val x.isLt y.isLt (by omega)))
    change Calls Tryz.prog 136 _ _ _ at hcon
    rw [List.size_toArray, List.length_finRange] at hcon
    refine hcon.mono ?_
    rintro e w' ⟨rfl, n, os, rfl⟩
    have hperm := List.mergeSort_perm (List.finRange P.length) (fun x y => !(ltOf (fun i j : Fin P.length => ((P[i.val][0]! : Nat) : Int) - ((P[j.val][0]! : Nat) : Int))) y x)
    refine ⟨rfl, ((List.finRange P.length).mergeSort (fun x y => !(ltOf (fun i j : Fin P.length => ((P[i.val][0]! : Nat) : Int) - ((P[j.val][0]! : Nat) : Int))) y x)).map Fin.val, ?_, ?_, ?_, Sort1.grown _⟩
    · rw [← finRange_vals]; exact hperm.map _
    · rw [List.pairwise_map]
      have h6 := List.pairwise_mergeSort (le := fun x y => !(ltOf (fun i j : Fin P.length => ((P[i.val][0]! : Nat) : Int) - ((P[j.val][0]! : Nat) : Int))) y x) (fun a b c h1 h2 => by
        rw [hlt] at *; simp at *; omega) (fun a b => by rw [hlt, hlt]; simp; omega) (List.finRange P.length)
      have h7 : ((List.finRange P.length).mergeSort (fun x y => !(ltOf (fun i j : Fin P.length => ((P[i.val][0]! : Nat) : Int) - ((P[j.val][0]! : Nat) : Int))) y x)).Nodup := hperm.nodup_iff.2 (by
        rw [List.nodup_iff_pairwise_ne]
        have : ((List.finRange P.length).map Fin.val).Nodup := by rw [finRange_vals]; exact List.nodup_range
        rw [List.nodup_iff_pairwise_ne, List.pairwise_map] at this
        exact this.imp (fun h e => h (by rw [e])))
      refine (h6.and (List.nodup_iff_pairwise_ne.1 h7)).imp ?_
      rintro a b ⟨h8, h9⟩
      rw [hlt, Bool.not_eq_true', decide_eq_false_iff_not] at h8
      rw [getElem!_pos P a.val a.isLt, getElem!_pos P b.val b.isLt]
      refine Nat.lt_of_le_of_ne (by omega) (fun e => h9 (Fin.ext (hD a.val b.val a.isLt b.isLt e)))
    · have := Sort1.after (m := n) (os := os) (l' := (List.finRange P.length).mergeSort (fun x y => !(ltOf (fun i j : Fin P.length => ((P[i.val][0]! : Nat) : Int) - ((P[j.val][0]! : Nat) : Int))) y x)) hperm.length_eq hho
      rw [List.map_map]
      exact this
end
section
open Go.RowKit Go.Lib

/-- The parts of a graph: nodes of one come to each other. -/
structure TjM.IsParts (n : Nat) (l : List EgM) (P : List (List Nat)) : Prop where
  nd : P.flatten.Nodup
  mem : ∀ x, x ∈ P.flatten ↔ x < n
  scc : ∀ p ∈ P, p ≠ [] ∧ p.Pairwise (· < ·) ∧ ∀ a ∈ p, ∀ b, b < n → (b ∈ p ↔ TjM.R n l a b ∧ TjM.R n l b a)
theorem TjM.flat_apart : ∀ (L : List (List Nat)), L.flatten.Nodup → ∀ i j (hi : i < L.length) (hj : j < L.length), i < j → ∀ x ∈ L[i], x ∉ L[j]
  | [], _, i, _, hi, _, _, _, _ => by simp at hi
  | p :: r, h, i, j, hi, hj, hij, x, hx => by
    rw [List.flatten_cons, List.nodup_append] at h
    cases j with
    | zero => omega
    | succ j =>
      cases i with
      | zero => exact fun h2 => h.2.2 x hx x (List.mem_flatten.2 ⟨_, List.getElem_mem (by simpa using hj), h2⟩) rfl
      | succ i => exact TjM.flat_apart r h.2.1 i j (by simpa using hi) (by simpa using hj) (by omega) x hx
theorem TjM.flat_one {L : List (List Nat)} (h : L.flatten.Nodup) {i j : Nat} (hi : i < L.length) (hj : j < L.length) {x : Nat} (h1 : x ∈ L[i]) (h2 : x ∈ L[j]) : i = j := by
  rcases Nat.lt_trichotomy i j with h3 | h3 | h3
  · exact absurd h2 (TjM.flat_apart L h i j hi hj h3 x h1)
  · exact h3
  · exact absurd h1 (TjM.flat_apart L h j i hj hi h3 x h2)
theorem TjM.all {n : Nat} {l : List EgM} {s : TjSt} (h : TjM.Inv n l [] s) (ha : ∀ x, x < n → s.when x ≠ 0) : TjM.IsParts n l s.parts := by
  have hst : s.stack = [] := by
    cases hs : s.stack with
    | nil => rfl
    | cons a r =>
      obtain ⟨g, hg, _⟩ := h.dn a (by rw [hs]; exact List.mem_cons_self)
      cases hg
  refine ⟨h.nd, fun x => ?_, h.scc⟩
  rw [h.pm, hst]
  exact ⟨fun h2 => h.vis x h2.1, fun h2 => ⟨ha x h2, by simp⟩⟩
theorem TjM.IsParts.perm {n : Nat} {l : List EgM} {P Q : List (List Nat)} (h : TjM.IsParts n l P) (hp : Q.Perm P) : TjM.IsParts n l Q :=
  ⟨hp.flatten.nodup_iff.2 h.nd, fun x => hp.flatten.mem_iff.trans (h.mem x), fun p hpq => h.scc p (hp.mem_iff.1 hpq)⟩
theorem TjM.IsParts.len {n : Nat} {l : List EgM} {P : List (List Nat)} (h : TjM.IsParts n l P) : P.length ≤ n := by
  have h1 := TjM.flat_len P (fun p hp => (h.scc p hp).1)
  have h2 := List.Nodup.length_le_of_subset h.nd (l₂ := List.range n) (fun x hx => List.mem_range.2 ((h.mem x).1 hx))
  rw [List.length_range] at h2; omega
/-- What Parts answers. -/
def TjM.PartsPost (n : Int) (l : List EgM) (w : World) (e : Ending) (w' : World) : Prop :=
  Below w.heap.size w w' ∧ ((GrM.check n l ≠ 0 ∧ e = .returned (.tuple #[.slice none 0 0, .int .i64 (GrM.check n l)])) ∨
    (GrM.check n l = 0 ∧ ∃ P v pv, e = .returned (.tuple #[pv, .int .i64 0]) ∧ TjM.IsParts n.toNat l P ∧ (P.Pairwise fun p q => p[0]! < q[0]!) ∧ w'.ownsRow w.heap.size 23 1 pv P.length ((List.range P.length).map v) ∧
      ∀ i (h : i < P.length), w'.ownsRow w.heap.size 3 1 (v i) (P[i]).length (intVals (GrM.ints P[i]))))

/-- The walker as it begins. -/
structure TjStart (n : Nat) (l : List EgM) (w wx : World) (O A B W : Nat) (a : Nat → Option Addr) (c : Nat → Nat) : Prop where
  below : Below w.heap.size w wx
  blk : Blk wx W 205 (TjM.cells n O A B (.slice none 0 0) (.slice none 0 0) 0)
  wt : ITab wx A n (fun _ => 0)
  lt : ITab wx B n (fun _ => 0)
  fix_ : TjFix n l w wx O A B W wx.heap.size a c
theorem TjStart.mk' {n : Nat} {l : List EgM} {w wx wc : World} {O A B W bs : Nat} {v : Nat → Value} (hb : Below w.heap.size w wx) (hA : Blk wx A 3 (Tab n (fun _ => Value.int .i64 0))) (hB : Blk wx B 3 (Tab n (fun _ => Value.int .i64 0)))
    (hR : GrM.Rows wc bs O n v (fun i => GrM.ints (GrM.next n l i))) (hle : Below wc.heap.size wc wx)
    (hW : Blk wx W 205 (TjM.cells n O A B (.slice none 0 0) (.slice none 0 0) 0))
    (h1 : (A < bs ∨ wc.heap.size ≤ A) ∧ (B < bs ∨ wc.heap.size ≤ B) ∧ (W < bs ∨ wc.heap.size ≤ W)) (h2 : w.heap.size ≤ A ∧ w.heap.size ≤ B ∧ w.heap.size ≤ W) (h3 : A ≠ B) : ∃ a c, TjStart n l w wx O A B W a c := by
  have hsh : ∀ k : Nat, ∃ p : Option Addr × Nat, k < n → v k = .slice p.1 (GrM.next n l k).length p.2 := fun k => by
    by_cases hk : k < n
    · obtain ⟨a, c, e, _⟩ := hR.shape hk
      exact ⟨(a, c), fun _ => by rw [e]; simp [GrM.ints]⟩
    · exact ⟨(none, 0), fun h => absurd h hk⟩
  obtain ⟨p, hp⟩ := Classical.axiomOfChoice hsh
  refine ⟨fun k => (p k).1, fun k => (p k).2, hb, hW, hA, hB, ⟨hA.lt, hB.lt, hW.lt⟩, ⟨h2.1, h2.2.1, h2.2.2, hb.size⟩, h3, fun wr hK k hk => ?_⟩
  have hO : Blk wx O _ _ := hR.blk.after hle
  have hOA : O ≠ A := Blk.ne hO hA (by decide)
  have hOB : O ≠ B := Blk.ne hO hB (by decide)
  have hOW : O ≠ W := Blk.ne hO hW (by decide)
  have hO2 : Blk wr O _ _ := (hK.at_ O hO.lt hOA hOB hOW).trans hO
  refine ⟨by rw [hO2.tabCell hk, hp k hk], ?_⟩
  have hown := hR.fam.own k hk
  obtain ⟨a, cc, e, _, hat, _, _⟩ := IntsAt.own hown
  rw [hp k hk] at e
  injection e with e1 _ _
  rw [e1]
  rcases hat with h | ⟨g, off, hg, hgl, hrow⟩
  · exact Or.inl h
  · have hgw : bs ≤ g ∧ g < wc.heap.size := by
      have := hown.lt g (by rw [hp k hk, e1, hg]; rfl)
      exact this
    have hx := hle.size
    have hkk : wr.heap[g]? = wc.heap[g]? := (hK.at_ g (by omega) (by omega) (by omega) (by omega)).trans (hle.block g hgw.2)
    refine Or.inr ⟨g, off, hg, by have := hK.size; omega, fun j hj => (World.cell?_of_block (w := wc) (w' := wr) hkk).trans (hrow j hj)⟩
theorem TjStart.pack {n : Nat} {l : List EgM} {w wx : World} {O A B W : Nat} (h : ∃ a c, TjStart n l w wx O A B W a c) : ∃ (O' A' B' W' : Nat) (a : Nat → Option Addr) (c : Nat → Nat), Value.pointer (some ⟨W, 0, none⟩) = .pointer (some ⟨W', 0, none⟩) ∧ Box (TjStart n l w wx O' A' B' W' a c) := by
  obtain ⟨a, c, h⟩ := h
  exact ⟨O, A, B, W, a, c, rfl, ⟨h⟩⟩
theorem TjStart.mem {n : Nat} {l : List EgM} {w wx : World} {O A B W : Nat} {a : Nat → Option Addr} {c : Nat → Nat} (h : TjStart n l w wx O A B W a c) : TjMem n w wx O A B W wx.heap.size TjM.start (fun _ => .slice none 0 0) (.slice none 0 0) wx where
  below := h.below
  kept := ⟨Nat.le_refl _, fun _ _ _ _ _ => rfl⟩
  blk := h.blk
  wt := h.wt
  lt := h.lt
  fam := (Fam.nil _ _ _ _ _).like (fun _ _ => rfl) (fun i _ => by unfold TjM.row; split <;> simp [TjM.start]) (fun i _ => by unfold TjM.row; split <;> simp [TjM.start, GrM.ints, intVals])
  tab := World.ownsRow_nil _ _ _ _

theorem TjM.row_at {s : TjSt} {i : Nat} (h : i < s.parts.length) (h2 : i < 100) : TjM.row s i = s.parts[i] := by
  unfold TjM.row
  rw [if_neg (by omega), List.getElem?_eq_getElem h]; rfl
theorem head_mem {l : List Nat} (h : l ≠ []) : l[0]! ∈ l := by
  have := List.length_pos_iff.2 h
  rw [getElem!_pos l 0 this]; exact List.getElem_mem _
/-- The parts, put in order. -/
theorem TjM.sorted_post {m : Nat} {l : List EgM} {w w' : World} {P : List (List Nat)} {I : List Nat} {v : Nat → Value} {pv : Value} (hc : GrM.check (m : Int) l = 0) (hb : Below w.heap.size w w') (hP : TjM.IsParts m l P) (hI : I.Perm (List.range P.length)) (hpw : I.Pairwise fun i j => (P[i]!)[0]! < (P[j]!)[0]!)
    (hT : w'.ownsRow w.heap.size 23 1 pv P.length (I.map v)) (hR : ∀ i (h : i < P.length), w'.ownsRow w.heap.size 3 1 (v i) (P[i]).length (intVals (GrM.ints P[i]))) :
    TjM.PartsPost (m : Int) l w (.returned (.tuple #[pv, .int .i64 0])) w' := by
  have hl : I.length = P.length := by rw [hI.length_eq, List.length_range]
  have hid : (List.range P.length).map (fun i => P[i]!) = P := by
    apply List.ext_getElem
    · simp
    · intro i h1 h2
      simp [h2]
  have hmem : ∀ i (h : i < I.length), I[i] < P.length := fun i h => List.mem_range.1 (hI.mem_iff.1 (List.getElem_mem h))
  refine ⟨hb, Or.inr ⟨hc, I.map (fun i => P[i]!), fun i => v I[i]!, pv, rfl, ?_, ?_, ?_, fun i hi => ?_⟩⟩
  · rw [Int.toNat_natCast]
    refine hP.perm ?_
    have := hI.map (fun i => P[i]!)
    rwa [hid] at this
  · rw [List.pairwise_map]; exact hpw
  · have e : (List.range (I.map (fun i => P[i]!)).length).map (fun i => v I[i]!) = I.map v := by
      apply List.ext_getElem
      · simp
      · intro i h1 h2
        have : i < I.length := by simpa using h2
        simp [this]
    rw [e, List.length_map, hl]; exact hT
  · have hi2 : i < I.length := by simpa using hi
    have h1 := hmem i hi2
    have e : (I.map (fun i => P[i]!))[i] = P[I[i]] := by simp [h1]
    dsimp only
    rw [e, getElem!_pos I i hi2]
    exact hR _ h1
set_option maxRecDepth 20000 in
set_option maxHeartbeats 16000000 in
theorem parts_any (n : Int) (l : List EgM) (ao : Option Addr) (cap : Nat) (w : World) (h : EgsAt w ao l) (hn : l.length ≤ 9000000000000) :
    Calls Tryz.prog 111 #[.int .i64 n, .slice ao l.length cap] w (TjM.PartsPost n l w) := by
  obtain ⟨i0, hi0, hz0, hz1, hz2⟩ := info_parts Tryz.infoIntG
  have H := box h
  clear h
  go_enter Tryz.func111, Tryz.ntmps111
  go_wp2_with fail
  refine (graphCheck_any n l ao cap w H.out hn).mono ?_
  rintro e w1 ⟨rfl, hb1⟩
  have HB1 := box hb1
  clear hb1
  obtain ⟨c, HC⟩ : ∃ c, Box (GrM.check n l = c) := ⟨_, ⟨rfl⟩⟩
  rw [HC.out]
  cases d0 : (c == 0) with
  | false =>
    have d1 : (c != 0) = true := by simpa using d0
    have HC0 : Box (c ≠ 0) := ⟨by simpa using d0⟩
    go_wp2_with fail
    go_ret2
    exact ⟨HB1.out, Or.inl ⟨by rw [HC.out]; exact HC0.out, by rw [HC.out]; rfl⟩⟩
  | true =>
  obtain rfl : c = 0 := by simpa using d0
  obtain ⟨m, rfl, hm6, hl2, hf⟩ := GrM.check_ok HC.out
  have HFf := box hf
  clear hf
  have hmk : ∀ W : World, (Instr.makeSlice 23 (.int .i64 (m : Int)) (.int .i64 (m : Int))).run Tryz.prog W = .ok (.slice (some ⟨W.heap.size, 0, none⟩) m m) (W.alloc (.cells (Tab m (fun _ => (Value.int .i64 0))).toArray 3)) :=
    fun W => run_make_tab (P := Tryz.prog) W 23 3 i0 (.int .i64 0) Tryz.underlying23 hi0 hz0 hz1 rfl m (by rw [hz2]; omega) (by omega)
  have hs1 := HB1.out.size
  go_upto_region 4 with (fail)
  go_cut [7] (fun s7 wx => ∃ (O A B W : Nat) (a : Nat → Option Addr) (c : Nat → Nat), s7 = .pointer (some ⟨W, 0, none⟩) ∧ Box (TjStart m l w wx O A B W a c))
  case first =>
    go_region_with (first | (go_at_call 134; refine (graphNext_any m l ao cap _ (H.out.below (by first | exact HB1.out.drew | exact HB1.out.drew.alloc hs1 _ | exact (HB1.out.drew.alloc hs1 _).alloc (by simp; omega) _) (Nat.le_refl _)) hl2 hm6 HFf.out).mono ?_; rintro e W2 ⟨hb2, O, v, rfl, hO, hR⟩; have HR := box hR; have HB2 := box hb2; clear hb2 hR hO))
    all_goals (have hs2 := HB2.out.size)
    all_goals (have HBw : Box (Below w.heap.size w W2) := ⟨by
      first
        | exact HB1.out.drew.trans (HB2.out.mono hs1)
        | exact (HB1.out.drew.alloc hs1 _).trans (HB2.out.mono (by simp; omega))
        | exact ((HB1.out.drew.alloc hs1 _).alloc (by simp; omega) _).trans (HB2.out.mono (by simp; omega))⟩)
    all_goals (have hsw := HBw.out.size)
    all_goals (try simp at hs2)
    all_goals (go_wp2_with fail)
    all_goals go_meet
    all_goals first
      | exact TjStart.pack (O := O) (A := W2.heap.size) (B := W2.heap.size + 1) (W := W2.heap.size + 1 + 1) (TjStart.mk' (v := v) (wc := W2)
          (by first | exact ((HBw.out.alloc hsw _).alloc (by simp; omega) _).alloc (by simp; omega) _ | exact (HBw.out.alloc hsw _).alloc (by simp; omega) _ | exact HBw.out.alloc hsw _)
          (by
            first
              | exact ((Blk.new W2 _ _).alloc _).alloc _
              | exact (Blk.new' (by simp) _ _).alloc _
              | exact (Blk.new W2 _ _).alloc _
              | exact ((((Blk.new w1 _ _).drew).after HB2.out).alloc _).alloc _
              | exact (((((Blk.new w1 _ _).alloc _).drew).after HB2.out)).alloc _
              | exact ((((Blk.new' (by simp) _ _).drew).after HB2.out)).alloc _)
          (by
            first
              | exact ((Blk.new W2 _ _).alloc _).alloc _
              | exact (Blk.new' (by simp) _ _).alloc _
              | exact (Blk.new W2 _ _).alloc _
              | exact ((((Blk.new w1 _ _).drew).after HB2.out).alloc _).alloc _
              | exact (((((Blk.new w1 _ _).alloc _).drew).after HB2.out)).alloc _
              | exact ((((Blk.new' (by simp) _ _).drew).after HB2.out)).alloc _)
          HR.out
          (by first | exact (((Below.refl _ W2).alloc (Nat.le_refl _) _).alloc (by simp) _).alloc (by simp; omega) _ | exact ((Below.refl _ W2).alloc (Nat.le_refl _) _).alloc (by simp) _ | exact (Below.refl _ W2).alloc (Nat.le_refl _) _)
          (by first | exact Blk.new' (by simp) _ _ | exact Blk.new _ _ _)
          (by first | (simp; done) | (simp; omega)) (by omega) (by omega))
      | exact TjStart.pack (O := O) (A := W2.heap.size + 1) (B := W2.heap.size) (W := W2.heap.size + 1 + 1) (TjStart.mk' (v := v) (wc := W2)
          (by first | exact ((HBw.out.alloc hsw _).alloc (by simp; omega) _).alloc (by simp; omega) _ | exact (HBw.out.alloc hsw _).alloc (by simp; omega) _ | exact HBw.out.alloc hsw _)
          (by
            first
              | exact ((Blk.new W2 _ _).alloc _).alloc _
              | exact (Blk.new' (by simp) _ _).alloc _
              | exact (Blk.new W2 _ _).alloc _
              | exact ((((Blk.new w1 _ _).drew).after HB2.out).alloc _).alloc _
              | exact (((((Blk.new w1 _ _).alloc _).drew).after HB2.out)).alloc _
              | exact ((((Blk.new' (by simp) _ _).drew).after HB2.out)).alloc _)
          (by
            first
              | exact ((Blk.new W2 _ _).alloc _).alloc _
              | exact (Blk.new' (by simp) _ _).alloc _
              | exact (Blk.new W2 _ _).alloc _
              | exact ((((Blk.new w1 _ _).drew).after HB2.out).alloc _).alloc _
              | exact (((((Blk.new w1 _ _).alloc _).drew).after HB2.out)).alloc _
              | exact ((((Blk.new' (by simp) _ _).drew).after HB2.out)).alloc _)
          HR.out
          (by first | exact (((Below.refl _ W2).alloc (Nat.le_refl _) _).alloc (by simp) _).alloc (by simp; omega) _ | exact ((Below.refl _ W2).alloc (Nat.le_refl _) _).alloc (by simp) _ | exact (Below.refl _ W2).alloc (Nat.le_refl _) _)
          (by first | exact Blk.new' (by simp) _ _ | exact Blk.new _ _ _)
          (by first | (simp; done) | (simp; omega)) (by omega) (by omega))
      | exact TjStart.pack (O := O) (A := w1.heap.size) (B := W2.heap.size) (W := W2.heap.size + 1) (TjStart.mk' (v := v) (wc := W2)
          (by first | exact ((HBw.out.alloc hsw _).alloc (by simp; omega) _).alloc (by simp; omega) _ | exact (HBw.out.alloc hsw _).alloc (by simp; omega) _ | exact HBw.out.alloc hsw _)
          (by
            first
              | exact ((Blk.new W2 _ _).alloc _).alloc _
              | exact (Blk.new' (by simp) _ _).alloc _
              | exact (Blk.new W2 _ _).alloc _
              | exact ((((Blk.new w1 _ _).drew).after HB2.out).alloc _).alloc _
              | exact (((((Blk.new w1 _ _).alloc _).drew).after HB2.out)).alloc _
              | exact ((((Blk.new' (by simp) _ _).drew).after HB2.out)).alloc _)
          (by
            first
              | exact ((Blk.new W2 _ _).alloc _).alloc _
              | exact (Blk.new' (by simp) _ _).alloc _
              | exact (Blk.new W2 _ _).alloc _
              | exact ((((Blk.new w1 _ _).drew).after HB2.out).alloc _).alloc _
              | exact (((((Blk.new w1 _ _).alloc _).drew).after HB2.out)).alloc _
              | exact ((((Blk.new' (by simp) _ _).drew).after HB2.out)).alloc _)
          HR.out
          (by first | exact (((Below.refl _ W2).alloc (Nat.le_refl _) _).alloc (by simp) _).alloc (by simp; omega) _ | exact ((Below.refl _ W2).alloc (Nat.le_refl _) _).alloc (by simp) _ | exact (Below.refl _ W2).alloc (Nat.le_refl _) _)
          (by first | exact Blk.new' (by simp) _ _ | exact Blk.new _ _ _)
          (by first | (simp; done) | (simp; omega)) (by omega) (by omega))
      | exact TjStart.pack (O := O) (A := W2.heap.size) (B := w1.heap.size) (W := W2.heap.size + 1) (TjStart.mk' (v := v) (wc := W2)
          (by first | exact ((HBw.out.alloc hsw _).alloc (by simp; omega) _).alloc (by simp; omega) _ | exact (HBw.out.alloc hsw _).alloc (by simp; omega) _ | exact HBw.out.alloc hsw _)
          (by
            first
              | exact ((Blk.new W2 _ _).alloc _).alloc _
              | exact (Blk.new' (by simp) _ _).alloc _
              | exact (Blk.new W2 _ _).alloc _
              | exact ((((Blk.new w1 _ _).drew).after HB2.out).alloc _).alloc _
              | exact (((((Blk.new w1 _ _).alloc _).drew).after HB2.out)).alloc _
              | exact ((((Blk.new' (by simp) _ _).drew).after HB2.out)).alloc _)
          (by
            first
              | exact ((Blk.new W2 _ _).alloc _).alloc _
              | exact (Blk.new' (by simp) _ _).alloc _
              | exact (Blk.new W2 _ _).alloc _
              | exact ((((Blk.new w1 _ _).drew).after HB2.out).alloc _).alloc _
              | exact (((((Blk.new w1 _ _).alloc _).drew).after HB2.out)).alloc _
              | exact ((((Blk.new' (by simp) _ _).drew).after HB2.out)).alloc _)
          HR.out
          (by first | exact (((Below.refl _ W2).alloc (Nat.le_refl _) _).alloc (by simp) _).alloc (by simp; omega) _ | exact ((Below.refl _ W2).alloc (Nat.le_refl _) _).alloc (by simp) _ | exact (Below.refl _ W2).alloc (Nat.le_refl _) _)
          (by first | exact Blk.new' (by simp) _ _ | exact Blk.new _ _ _)
          (by first | (simp; done) | (simp; omega)) (by omega) (by omega))
      | exact TjStart.pack (O := O) (A := w1.heap.size) (B := w1.heap.size + 1) (W := W2.heap.size) (TjStart.mk' (v := v) (wc := W2)
          (by first | exact ((HBw.out.alloc hsw _).alloc (by simp; omega) _).alloc (by simp; omega) _ | exact (HBw.out.alloc hsw _).alloc (by simp; omega) _ | exact HBw.out.alloc hsw _)
          (by
            first
              | exact ((Blk.new W2 _ _).alloc _).alloc _
              | exact (Blk.new' (by simp) _ _).alloc _
              | exact (Blk.new W2 _ _).alloc _
              | exact ((((Blk.new w1 _ _).drew).after HB2.out).alloc _).alloc _
              | exact (((((Blk.new w1 _ _).alloc _).drew).after HB2.out)).alloc _
              | exact ((((Blk.new' (by simp) _ _).drew).after HB2.out)).alloc _)
          (by
            first
              | exact ((Blk.new W2 _ _).alloc _).alloc _
              | exact (Blk.new' (by simp) _ _).alloc _
              | exact (Blk.new W2 _ _).alloc _
              | exact ((((Blk.new w1 _ _).drew).after HB2.out).alloc _).alloc _
              | exact (((((Blk.new w1 _ _).alloc _).drew).after HB2.out)).alloc _
              | exact ((((Blk.new' (by simp) _ _).drew).after HB2.out)).alloc _)
          HR.out
          (by first | exact (((Below.refl _ W2).alloc (Nat.le_refl _) _).alloc (by simp) _).alloc (by simp; omega) _ | exact ((Below.refl _ W2).alloc (Nat.le_refl _) _).alloc (by simp) _ | exact (Below.refl _ W2).alloc (Nat.le_refl _) _)
          (by first | exact Blk.new' (by simp) _ _ | exact Blk.new _ _ _)
          (by first | (simp; done) | (simp; omega)) (by omega) (by omega))
      | exact TjStart.pack (O := O) (A := w1.heap.size + 1) (B := w1.heap.size) (W := W2.heap.size) (TjStart.mk' (v := v) (wc := W2)
          (by first | exact ((HBw.out.alloc hsw _).alloc (by simp; omega) _).alloc (by simp; omega) _ | exact (HBw.out.alloc hsw _).alloc (by simp; omega) _ | exact HBw.out.alloc hsw _)
          (by
            first
              | exact ((Blk.new W2 _ _).alloc _).alloc _
              | exact (Blk.new' (by simp) _ _).alloc _
              | exact (Blk.new W2 _ _).alloc _
              | exact ((((Blk.new w1 _ _).drew).after HB2.out).alloc _).alloc _
              | exact (((((Blk.new w1 _ _).alloc _).drew).after HB2.out)).alloc _
              | exact ((((Blk.new' (by simp) _ _).drew).after HB2.out)).alloc _)
          (by
            first
              | exact ((Blk.new W2 _ _).alloc _).alloc _
              | exact (Blk.new' (by simp) _ _).alloc _
              | exact (Blk.new W2 _ _).alloc _
              | exact ((((Blk.new w1 _ _).drew).after HB2.out).alloc _).alloc _
              | exact (((((Blk.new w1 _ _).alloc _).drew).after HB2.out)).alloc _
              | exact ((((Blk.new' (by simp) _ _).drew).after HB2.out)).alloc _)
          HR.out
          (by first | exact (((Below.refl _ W2).alloc (Nat.le_refl _) _).alloc (by simp) _).alloc (by simp; omega) _ | exact ((Below.refl _ W2).alloc (Nat.le_refl _) _).alloc (by simp) _ | exact (Below.refl _ W2).alloc (Nat.le_refl _) _)
          (by first | exact Blk.new' (by simp) _ _ | exact Blk.new _ _ _)
          (by first | (simp; done) | (simp; omega)) (by omega) (by omega))
  case rest =>
  obtain ⟨O, A, B, W, a, c, rfl, HSt⟩ := hcut
  have HM0 := box HSt.out.mem
  have HF := box HSt.out.fix_
  clear hmk HFf HB1 hs1 HSt
  obtain ⟨N, HN⟩ : ∃ N, Box (wc.heap.size = N) := ⟨_, ⟨rfl⟩⟩
  rw [HN.out] at HM0 HF
  go_wp2_with fail
  go_loopw [25] (fun t25 wr => ∃ (k : Nat) (s : TjSt) (v : Nat → Value) (pv : Value), k ≤ m ∧ t25 = .int .i64 (k : Int) ∧ Box (TjM.Inv m l [] s ∧ ∀ x, x < k → s.when x ≠ 0) ∧ Box (TjMem m w wc O A B W N s v pv wr)) (fun t25 _ => m - (RowKit.intOf t25).toNat)
  case atStart => exact ⟨0, _, _, _, Nat.zero_le _, rfl, ⟨TjM.Inv.start, fun x hx => by omega⟩, HM0⟩
  case round =>
    obtain ⟨k, s, v, pv, hk, rfl, HI, HM⟩ := hrel
    clear HM0
    by_cases hlt : k < m
    · have c1 := HM.out.blk.cell (i := 1) rfl
      have cw := HM.out.wt.cell hlt
      by_cases hw : s.when k = 0
      · rw [hw] at cw
        go_wp2_with fail
        refine (visit_any HF.out hm6 (TjM.white m s) s v pv wr k [] (Nat.le_refl _) HM.out HI.out.1 hw hlt (fun g hg => by cases hg)).mono ?_
        rintro e w5 ⟨rfl, s', v', pv', hrun, hM'⟩
        have hpost := TjM.run_keeps hrun [] HI.out.1 hw hlt (fun g hg => by cases hg)
        have HI' : Box (TjM.Inv m l [] s' ∧ ∀ x, x < k + 1 → s'.when x ≠ 0) := ⟨hpost.inv, fun x hx => by
          by_cases e : x = k
          · subst e; have := hpost.new; omega
          · rw [(hpost.old x (HI.out.2 x (by omega))).1]; exact HI.out.2 x (by omega)⟩
        have HM' := box hM'
        clear hrun hM' hpost c1 cw hw
        go_wp2_with fail
        go_roundw
        case rel => exact ⟨k + 1, s', v', pv', by omega, by go_num, HI', HM'⟩
        case measure => simp [RowKit.intOf]; omega
      · have q0 : ((s.when k : Int) == 0) = false := by simp; omega
        have q0n : ((s.when k : Int) = 0) = False := by simp; omega
        have HI' : Box (TjM.Inv m l [] s ∧ ∀ x, x < k + 1 → s.when x ≠ 0) := ⟨HI.out.1, fun x hx => by
          by_cases e : x = k
          · subst e; exact hw
          · exact HI.out.2 x (by omega)⟩
        clear hw
        go_wp2_with fail
        go_roundw
        case rel => exact ⟨k + 1, s, v, pv, by omega, by go_num, HI', HM⟩
        case measure => simp [RowKit.intOf]; omega
    · obtain rfl : k = m := by omega
      have HP := box (TjM.all HI.out.1 HI.out.2)
      have hPl := HP.out.len
      have c4 := HM.out.blk.cell (i := 4) rfl
      have hsort := partSort_any s.parts v pv N wr HM.out.tab (fun i hi => by
        refine ⟨(HP.out.scc _ (List.getElem_mem hi)).1, fun x hx => ?_, ?_⟩
        · have := (HP.out.mem x).1 (List.mem_flatten.2 ⟨_, List.getElem_mem hi, hx⟩)
          omega
        · have := HM.out.fam.own i (by omega)
          rw [TjM.row_at hi (by omega)] at this
          exact this) (fun i j hi hj he => by
        refine TjM.flat_one HP.out.nd hi hj (x := s.parts[i][0]!) (head_mem (HP.out.scc _ (List.getElem_mem hi)).1) ?_
        rw [he]; exact head_mem (HP.out.scc _ (List.getElem_mem hj)).1) (by omega)
      have HSo := box hsort
      clear hsort hlt hk HI
      go_wp2_with fail
      refine HSo.out.mono ?_
      rintro e w5 ⟨rfl, I, hI, hpw, hown, hg⟩
      have hrow : ∀ q, pv.ownBlock = some q → N ≤ q := fun q hq => (HM.out.tab.lt q hq).1
      have bW := Blk.grown HM.out.blk hg (fun e => by have := hrow W e; have := HF.out.lt.2.2; omega)
      have d4 := bW.cell (i := 4) rfl
      have hbw : Below w.heap.size w w5 := HM.out.below.grown hg (by have := HM.out.below.size; exact this) (fun q hq => Nat.le_trans HF.out.le.2.2.2 (hrow q hq))
      have HRes := box (TjM.sorted_post HC.out hbw HP.out hI hpw (ownsRow_mono hown HF.out.le.2.2.2) (fun i hi => by
        have h1 := HM.out.fam.own i (by omega)
        rw [TjM.row_at hi (by omega)] at h1
        exact ownsRow_mono (tj_far HM.out.tab hg h1 (by decide)) HF.out.le.2.2.2))
      clear hI hpw hown hg hrow bW hbw HSo c4
      go_wp2_with fail
      go_ret2
      exact HRes.out
end
section
open Go.RowKit Go.Lib

/-- Two rising lists with the same members are one. -/
theorem strict_ext : ∀ (l m : List Nat), l.Pairwise (· < ·) → m.Pairwise (· < ·) → (∀ x, x ∈ l ↔ x ∈ m) → l = m
  | [], [], _, _, _ => rfl
  | [], b :: m, _, _, h => by have := (h b).2 List.mem_cons_self; cases this
  | a :: l, [], _, _, h => by have := (h a).1 List.mem_cons_self; cases this
  | a :: l, b :: m, h1, h2, h => by
    rw [List.pairwise_cons] at h1 h2
    have e : a = b := by
      have ha := (h a).1 List.mem_cons_self
      have hb := (h b).2 List.mem_cons_self
      rcases List.mem_cons.1 ha with e | ha
      · exact e
      · rcases List.mem_cons.1 hb with e | hb
        · exact e.symm
        · have := h2.1 a ha; have := h1.1 b hb; omega
    subst e
    rw [strict_ext l m h1.2 h2.2 (fun x => ?_)]
    constructor
    · intro hx
      rcases List.mem_cons.1 ((h x).1 (List.mem_cons_of_mem _ hx)) with e | h3
      · have := h1.1 x hx; omega
      · exact h3
    · intro hx
      rcases List.mem_cons.1 ((h x).2 (List.mem_cons_of_mem _ hx)) with e | h3
      · have := h2.1 x hx; omega
      · exact h3
namespace TjM
def ex : List EgM := [⟨2, 0⟩, ⟨0, 2⟩]
theorem ex_E (x y : Nat) : GrM.E ex x y = true ↔ (x = 2 ∧ y = 0) ∨ (x = 0 ∧ y = 2) := by
  rw [GrM.E_iff]
  unfold ex
  simp
  omega
theorem ex_R (x y : Nat) : R 3 ex x y ↔ x = y ∨ ((x = 0 ∨ x = 2) ∧ (y = 0 ∨ y = 2)) := by
  constructor
  · intro h
    have := R.closed (n := 3) (l := ex) (A := fun y => x = y ∨ ((x = 0 ∨ x = 2) ∧ (y = 0 ∨ y = 2))) (fun a ha b _ he => by
      rw [ex_E] at he; omega) (Or.inl rfl) h
    exact this
  · rintro (rfl | ⟨h1, h2⟩)
    · exact R.refl _
    · by_cases e : x = y
      · exact Or.inl e
      · exact R.edge (by omega) (by rw [ex_E]; omega)
theorem ex_parts {P : List (List Nat)} (h : IsParts 3 ex P) (hp : P.Pairwise fun p q => p[0]! < q[0]!) : P = [[0, 2], [1]] := by
  have hA : ∀ p ∈ P, p = [0, 2] ∨ p = [1] := fun p hpp => by
    obtain ⟨h1, h2, h3⟩ := h.scc p hpp
    have hm := head_mem h1
    have h0 : p[0]! < 3 := (h.mem _).1 (List.mem_flatten.2 ⟨p, hpp, hm⟩)
    have h4 := h3 _ hm
    have h5 : ∀ x ∈ p, x < 3 := fun x hx => (h.mem _).1 (List.mem_flatten.2 ⟨p, hpp, hx⟩)
    by_cases e : p[0]! = 1
    · right
      refine strict_ext _ _ h2 (by simp) (fun x => ?_)
      rw [List.mem_singleton]
      constructor
      · intro hx
        have := (h4 x (h5 x hx)).1 hx
        rw [ex_R, ex_R] at this; omega
      · intro hx
        exact (h4 x (by omega)).2 (by rw [ex_R, ex_R]; omega)
    · left
      refine strict_ext _ _ h2 (by simp) (fun x => ?_)
      simp only [List.mem_cons, List.not_mem_nil, or_false]
      constructor
      · intro hx
        have h6 := (h4 x (h5 x hx)).1 hx
        rw [ex_R, ex_R] at h6; omega
      · intro hx
        exact (h4 x (by omega)).2 (by rw [ex_R, ex_R]; omega)
  have h0 : [0, 2] ∈ P := by
    obtain ⟨p, hp1, hp2⟩ := List.mem_flatten.1 ((h.mem 0).2 (by omega))
    rcases hA p hp1 with rfl | rfl
    · exact hp1
    · simp at hp2
  have h1 : [1] ∈ P := by
    obtain ⟨p, hp1, hp2⟩ := List.mem_flatten.1 ((h.mem 1).2 (by omega))
    rcases hA p hp1 with rfl | rfl
    · simp at hp2
    · exact hp1
  match P, hA, h0, h1, hp with
  | [], _, h0, _, _ => cases h0
  | [p], hA, h0, h1, _ => rw [List.mem_singleton] at h0 h1; rw [← h0] at h1; cases h1
  | p :: q :: r, hA, h0, h1, hp =>
    rw [List.pairwise_cons, List.pairwise_cons] at hp
    have hpq := hp.1 q List.mem_cons_self
    have hp' := hA p List.mem_cons_self
    have hq' := hA q (List.mem_cons_of_mem _ List.mem_cons_self)
    have hr : r = [] := by
      cases r with
      | nil => rfl
      | cons s r =>
        have h6 := hp.2.1 s List.mem_cons_self
        have hs' := hA s (List.mem_cons_of_mem _ (List.mem_cons_of_mem _ List.mem_cons_self))
        rcases hp' with rfl | rfl <;> rcases hq' with rfl | rfl <;> rcases hs' with rfl | rfl <;> simp at hpq h6
    subst hr
    rcases hp' with rfl | rfl <;> rcases hq' with rfl | rfl <;> simp at hpq ⊢
/-- Which part each node is in, of the first ones. -/
structure Told (P : List (List Nat)) (i j : Nat) (g : Nat → Int) : Prop where
  old : ∀ q (h : q < P.length), q < i → ∀ x ∈ P[q], g x = (q : Int)
  now : ∀ (h : i < P.length), ∀ x ∈ P[i].take j, g x = (i : Int)
theorem Told.start (P : List (List Nat)) (g : Nat → Int) : Told P 0 0 g := ⟨fun q _ h => by omega, fun _ x hx => by simp at hx⟩
theorem Told.put {P : List (List Nat)} {i j : Nat} {g : Nat → Int} (h : Told P i j g) (hn : P.flatten.Nodup) (hi : i < P.length) (hj : j < P[i].length) : Told P i (j + 1) (upd g P[i][j] (i : Int)) := by
  refine ⟨fun q hq hqi x hx => ?_, fun _ x hx => ?_⟩
  · rw [upd_other _ _ (fun e => ?_)]
    · exact h.old q hq hqi x hx
    · have := flat_one hn hq hi (x := x) hx (by rw [e]; exact List.getElem_mem _)
      omega
  · unfold upd
    split
    · rfl
    · rw [List.take_succ_eq_append_getElem hj] at hx
      rcases List.mem_append.1 hx with hx | hx
      · exact h.now hi x hx
      · rw [List.mem_singleton] at hx; contradiction
theorem Told.next {P : List (List Nat)} {i j : Nat} {g : Nat → Int} (h : Told P i j g) (hi : i < P.length) (hj : j = P[i].length) : Told P (i + 1) 0 g := by
  refine ⟨fun q hq hqi x hx => ?_, fun _ x hx => by simp at hx⟩
  by_cases e : q = i
  · subst e
    exact h.now hq x (by rw [hj, List.take_length]; exact hx)
  · exact h.old q hq (by omega) x hx
theorem Told.all {n : Nat} {l : List EgM} {P : List (List Nat)} {g : Nat → Int} (h : Told P P.length 0 g) (hP : IsParts n l P) {a b : Nat} (ha : a < n) (hb : b < n) : (R n l a b ∧ R n l b a) ↔ g a = g b := by
  obtain ⟨p, hp, hap⟩ := List.mem_flatten.1 ((hP.mem a).2 ha)
  obtain ⟨q, hq, hbq⟩ := List.mem_flatten.1 ((hP.mem b).2 hb)
  obtain ⟨i, hi, rfl⟩ := List.mem_iff_getElem.1 hp
  obtain ⟨j, hj, rfl⟩ := List.mem_iff_getElem.1 hq
  rw [h.old i hi hi a hap, h.old j hj hj b hbq, ← (hP.scc _ hp).2.2 a hap b hb]
  constructor
  · intro hbi
    rw [flat_one hP.nd hi hj hbi hbq]
  · intro e
    have e2 : i = j := by omega
    subst e2; exact hbq
theorem IsParts.count {n : Nat} {l : List EgM} {P : List (List Nat)} (hP : IsParts n l P) : P.flatten.length = n := by
  have h1 := List.Nodup.length_le_of_subset hP.nd (l₂ := List.range n) (fun x hx => List.mem_range.2 ((hP.mem x).1 hx))
  have h2 := List.Nodup.length_le_of_subset List.nodup_range (l₁ := List.range n) (l₂ := P.flatten) (fun x hx => (hP.mem x).2 (List.mem_range.1 hx))
  rw [List.length_range] at h1 h2; omega
theorem flat_take (P : List (List Nat)) {i : Nat} (hi : i < P.length) : (P.take (i + 1)).flatten.length = (P.take i).flatten.length + P[i].length := by
  rw [List.take_succ_eq_append_getElem hi, List.flatten_append, List.length_append]; simp
theorem R_iff_mutual {n : Nat} {l : List EgM} {a b : Nat} : (R n l a b ∧ R n l b a) ↔ a = b ∨ (GrM.Path n l a b ∧ GrM.Path n l b a) := by
  constructor
  · rintro ⟨h1 | h1, h2 | h2⟩
    · exact Or.inl h1
    · exact Or.inl h1
    · exact Or.inl h2.symm
    · exact Or.inr ⟨h1, h2⟩
  · rintro (rfl | ⟨h1, h2⟩)
    · exact ⟨R.refl _, R.refl _⟩
    · exact ⟨Or.inr h1, Or.inr h2⟩
end TjM
end
end
end Go.Proofs.YtnnkejolfhhmlaaGreat
