/- lock.Ask, in plain Lean and in memory: where an item stands, a table with an item more, a table with an item changed. -/
import Derived.Test.YtjbmkhalmmahkaaLkBs
import Derived.Test.YtjbmkhalmmahkaaLkGive
namespace Go.Proofs.Ytjbmkhalmmahkaa
open Go.RowKit Go.Lib

namespace LkM
theorem Pos.tail {x : LiM} {t : List LiM} {item : Int} {p : Nat} (h : Pos (x :: t) item (p + 1)) : Pos t item p :=
  ⟨by have := h.le; simp only [List.length_cons] at this; omega, fun k hk hkp => h.lo (k + 1) (by simp; omega) (by omega), fun k hk hkp => h.hi (k + 1) (by simp; omega) (by omega)⟩
theorem askIn_new {item : Int} {a : LkM} : ∀ {t : List LiM} {p : Nat}, Pos t item p → foundAt t item p = false → askIn item a t = (t.take p ++ ⟨item, [a], []⟩ :: t.drop p, true)
  | [], p, h, _ => by
    have := h.le
    simp only [List.length_nil] at this
    obtain rfl : p = 0 := by omega
    rfl
  | x :: r, 0, h, hf => by
    have h1 := h.hi 0 (by simp) (by omega)
    simp only [List.getElem_cons_zero] at h1
    unfold foundAt at hf
    simp only [List.getElem?_cons_zero] at hf
    have h2 : ¬ x.item = item := by simpa using hf
    unfold askIn
    rw [if_neg (by omega), if_neg h2]
    rfl
  | x :: r, p + 1, h, hf => by
    have h1 := h.lo 0 (by simp) (by omega)
    simp only [List.getElem_cons_zero] at h1
    unfold askIn
    rw [if_pos h1, askIn_new h.tail (by unfold foundAt at hf ⊢; simpa using hf)]
    rfl
theorem askIn_old {item : Int} {a : LkM} : ∀ {t : List LiM} {p : Nat} (hp : p < t.length), Pos t item p → t[p].item = item → askIn item a t = (t.set p (askItem t[p] a).1, (askItem t[p] a).2)
  | [], p, hp, _, _ => by simp at hp
  | x :: r, 0, hp, h, he => by
    simp only [List.getElem_cons_zero] at he ⊢
    unfold askIn
    rw [if_neg (by omega), if_pos he]
    rfl
  | x :: r, p + 1, hp, h, he => by
    have h1 := h.lo 0 (by simp) (by omega)
    simp only [List.getElem_cons_zero] at h1
    simp only [List.getElem_cons_succ] at he ⊢
    unfold askIn
    rw [if_pos h1, askIn_old (by simpa using hp) h.tail he]
    rfl
theorem foundAt_iff {t : List LiM} {item : Int} {p : Nat} (hf : foundAt t item p = true) : ∃ h : p < t.length, t[p].item = item := by
  unfold foundAt at hf
  cases hp : t[p]? with
  | none => rw [hp] at hf; cases hf
  | some x =>
    obtain ⟨h1, h2⟩ := List.getElem?_eq_some_iff.1 hp
    rw [hp] at hf
    exact ⟨h1, by rw [h2]; simpa using hf⟩
/-- The rows of a table, as they are read. -/
def RowIn (w : World) (lo : Nat) (v : Value) (l : List LkM) : Prop := ∃ a c, v = .slice a l.length c ∧ LksIn w lo a l ∧ l.length ≤ c ∧ (a = none → c = 0)
theorem RowIn.own {w : World} {base n : Nat} {v : Value} {l : List LkM} (h : w.ownsRow base 28 2 v n (lkVals l)) : RowIn w base v l := by
  obtain ⟨a, c, h1, _, h2, h3, h4⟩ := LksIn.own h
  exact ⟨a, c, h1, h2, h4, h3⟩
/-- A table in an own row, with its rows. -/
theorem lis_of {w : World} {B g cap : Nat} {t : List LiM} {v : Nat → Value} (h : w.ownsRow B 32 3 (.slice (some ⟨g, 0, none⟩) t.length cap) t.length (liVals t v)) (hr : ∀ k (hk : k < t.length), RowIn w B (v (2 * k)) t[k].held ∧ RowIn w B (v (2 * k + 1)) t[k].queue) : LisIn w B (some ⟨g, 0, none⟩) t := by
  refine Or.inr ⟨g, 0, rfl, (h.lt g rfl).1, (h.lt g rfl).2, fun k hk => ?_⟩
  obtain ⟨⟨ha, hc, f1, f2, f3, f4⟩, qa, qc, g1, g2, g3, g4⟩ := hr k hk
  obtain ⟨e1, e2, e3⟩ := liVals_at (v := v) hk
  rw [f1] at e2
  rw [g1] at e3
  refine ⟨ha, hc, qa, qc, ?_, ?_, ?_, f2, g2, f3, g3, f4, g4⟩
  · rw [Nat.zero_add, h.cellAt (k * 3) (by omega), e1]
  · rw [Nat.zero_add, h.cellAt (k * 3 + 1) (by omega), e2]
  · rw [Nat.zero_add, h.cellAt (k * 3 + 2) (by omega), e3]
/-- The rows' values where an item has been put in. -/
def putV (v : Nat → Value) (p : Nat) (x : Value) (i : Nat) : Value := if i < 2 * p then v i else if i = 2 * p then x else if i = 2 * p + 1 then .slice none 0 0 else v (i - 2)
theorem liVals_put {t : List LiM} {v : Nat → Value} {p : Nat} (hp : p ≤ t.length) (y : LiM) (x : Value) : (liVals t v).take (p * 3) ++ [.int .i64 y.item, x, .slice none 0 0] ++ (liVals t v).drop (p * 3) = liVals (t.take p ++ y :: t.drop p) (putV v p x) := by
  have hl := liVals_len t v
  have hl' : (t.take p ++ y :: t.drop p).length = t.length + 1 := by rw [List.length_append, List.length_cons, List.length_take, List.length_drop]; omega
  have hL := liVals_len (t.take p ++ y :: t.drop p) (putV v p x)
  rw [hl'] at hL
  have key : ∀ k, k < t.length + 1 → ∀ d, d < 3 → ((liVals t v).take (p * 3) ++ [.int .i64 y.item, x, .slice none 0 0] ++ (liVals t v).drop (p * 3))[k * 3 + d]? = (liVals (t.take p ++ y :: t.drop p) (putV v p x))[k * 3 + d]? := by
    intro k hk d hd
    obtain ⟨r1, r2, r3⟩ := liVals_at (t := t.take p ++ y :: t.drop p) (v := putV v p x) (k := k) (by omega)
    by_cases h1 : k < p
    · obtain ⟨l1, l2, l3⟩ := liVals_at (t := t) (v := v) (k := k) (by omega)
      rw [List.append_assoc, List.getElem?_append_left (by rw [List.length_take]; omega), List.getElem?_take_of_lt (by omega)]
      have e1 : (t.take p ++ y :: t.drop p)[k]'(by omega) = t[k] := by
        rw [List.getElem_append_left (by rw [List.length_take]; omega), List.getElem_take]
      have e2 : putV v p x (2 * k) = v (2 * k) := by unfold putV; rw [if_pos (by omega)]
      have e3 : putV v p x (2 * k + 1) = v (2 * k + 1) := by unfold putV; rw [if_pos (by omega)]
      rcases (show d = 0 ∨ d = 1 ∨ d = 2 by omega) with rfl | rfl | rfl
      · rw [Nat.add_zero, l1, r1, e1]
      · rw [l2, r2, e2]
      · rw [l3, r3, e3]
    · by_cases h2 : k = p
      · subst h2
        have e1 : (t.take k ++ y :: t.drop k)[k]'(by omega) = y := by
          rw [List.getElem_append_right (by rw [List.length_take]; omega)]
          simp [List.length_take, Nat.min_eq_left hp]
        have e2 : putV v k x (2 * k) = x := by unfold putV; rw [if_neg (by omega), if_pos rfl]
        have e3 : putV v k x (2 * k + 1) = .slice none 0 0 := by unfold putV; rw [if_neg (by omega), if_neg (by omega), if_pos rfl]
        rw [List.append_assoc, List.getElem?_append_right (by rw [List.length_take]; omega), List.length_take, hl, Nat.min_eq_left (by omega), show k * 3 + d - k * 3 = d by omega]
        rcases (show d = 0 ∨ d = 1 ∨ d = 2 by omega) with rfl | rfl | rfl
        · rw [Nat.add_zero, r1, e1]; rfl
        · rw [r2, e2]; rfl
        · rw [r3, e3]; rfl
      · obtain ⟨l1, l2, l3⟩ := liVals_at (t := t) (v := v) (k := k - 1) (by omega)
        have e1 : (t.take p ++ y :: t.drop p)[k]'(by omega) = t[k - 1] := by
          rw [List.getElem_append_right (by rw [List.length_take]; omega)]
          have : k - (t.take p).length = (k - 1 - p) + 1 := by rw [List.length_take]; omega
          simp only [this, List.getElem_cons_succ, List.getElem_drop]
          congr 1
          omega
        have e2 : putV v p x (2 * k) = v (2 * (k - 1)) := by
          unfold putV; rw [if_neg (by omega), if_neg (by omega), if_neg (by omega)]
          congr 1
          omega
        have e3 : putV v p x (2 * k + 1) = v (2 * (k - 1) + 1) := by
          unfold putV; rw [if_neg (by omega), if_neg (by omega), if_neg (by omega)]
          congr 1
          omega
        have hm : k * 3 + d - (p * 3 + 3) + p * 3 = (k - 1) * 3 + d := by omega
        rw [List.getElem?_append_right (by rw [List.length_append, List.length_take]; simp only [List.length_cons, List.length_nil]; omega), List.getElem?_drop]
        rw [show p * 3 + (k * 3 + d - ((liVals t v).take (p * 3) ++ [.int .i64 y.item, x, .slice none 0 0]).length) = (k - 1) * 3 + d by rw [List.length_append, List.length_take]; simp only [List.length_cons, List.length_nil]; omega]
        rcases (show d = 0 ∨ d = 1 ∨ d = 2 by omega) with rfl | rfl | rfl
        · rw [Nat.add_zero, Nat.add_zero, l1, r1, e1]
        · rw [l2, r2, e2]
        · rw [l3, r3, e3]
  apply List.ext_getElem?
  intro j
  by_cases hj : j < (t.length + 1) * 3
  · have := key (j / 3) (by omega) (j % 3) (by omega)
    rwa [show j / 3 * 3 + j % 3 = j by omega] at this
  · rw [List.getElem?_eq_none (by simp only [List.length_append, List.length_take, List.length_drop, List.length_cons, List.length_nil]; omega), List.getElem?_eq_none (by omega)]
/-- A table with an item more. -/
theorem lis_put {w8 w' : World} {B g' cap' p : Nat} {tv x : Value} {t : List LiM} {v : Nat → Value} {y : LiM} (hT : OwnT w8 B tv t v) (h50 : t.length < 50) (hp : p ≤ t.length) (hq : y.queue = []) (hx : RowIn w' B x y.held)
    (ho : w'.ownsRow B 32 3 (.slice (some ⟨g', 0, none⟩) (t.length + 1) cap') (t.length + 1) ((liVals t v).take (p * 3) ++ [.int .i64 y.item, x, .slice none 0 0] ++ (liVals t v).drop (p * 3))) (hg : w8.grownBy w' tv.ownBlock) : LisIn w' B (some ⟨g', 0, none⟩) (t.take p ++ y :: t.drop p) := by
  have hl' : (t.take p ++ y :: t.drop p).length = t.length + 1 := by rw [List.length_append, List.length_cons, List.length_take, List.length_drop]; omega
  rw [liVals_put hp y x, ← hl'] at ho
  have hF := hT.fam.kept hg (fun i hi => row_ne (hT.fam.own i hi) hT.tab (by decide))
  have hold : ∀ k (hk : k < t.length), RowIn w' B (v (2 * k)) t[k].held ∧ RowIn w' B (v (2 * k + 1)) t[k].queue := fun k hk => by
    have h1 := hF.own (2 * k) (by omega)
    have h2 := hF.own (2 * k + 1) (by omega)
    simp only [row_held hk] at h1
    simp only [row_queue hk] at h2
    exact ⟨RowIn.own h1, RowIn.own h2⟩
  refine lis_of ho fun k hk => ?_
  rw [hl'] at hk
  by_cases h1 : k < p
  · have e1 : (t.take p ++ y :: t.drop p)[k]'(by omega) = t[k] := by
      rw [List.getElem_append_left (by rw [List.length_take]; omega), List.getElem_take]
    rw [e1, show putV v p x (2 * k) = v (2 * k) by unfold putV; rw [if_pos (by omega)], show putV v p x (2 * k + 1) = v (2 * k + 1) by unfold putV; rw [if_pos (by omega)]]
    exact hold k (by omega)
  · by_cases h2 : k = p
    · subst h2
      have e1 : (t.take k ++ y :: t.drop k)[k]'(by omega) = y := by
        rw [List.getElem_append_right (by rw [List.length_take]; omega)]
        simp [List.length_take, Nat.min_eq_left hp]
      rw [e1, show putV v k x (2 * k) = x by unfold putV; rw [if_neg (by omega), if_pos rfl], show putV v k x (2 * k + 1) = .slice none 0 0 by unfold putV; rw [if_neg (by omega), if_neg (by omega), if_pos rfl], hq]
      exact ⟨hx, none, 0, rfl, Or.inl rfl, Nat.le_refl _, fun _ => rfl⟩
    · have e1 : (t.take p ++ y :: t.drop p)[k]'(by omega) = t[k - 1] := by
        rw [List.getElem_append_right (by rw [List.length_take]; omega)]
        have : k - (t.take p).length = (k - 1 - p) + 1 := by rw [List.length_take]; omega
        simp only [this, List.getElem_cons_succ, List.getElem_drop]
        congr 1
        omega
      rw [e1, show putV v p x (2 * k) = v (2 * (k - 1)) by
          unfold putV; rw [if_neg (by omega), if_neg (by omega), if_neg (by omega)]
          congr 1
          omega, show putV v p x (2 * k + 1) = v (2 * (k - 1) + 1) by
          unfold putV; rw [if_neg (by omega), if_neg (by omega), if_neg (by omega)]
          congr 1
          omega]
      exact hold (k - 1) (by omega)
/-- A table with an item changed. -/
theorem lis_set {W w' : World} {B g p : Nat} {tv : Value} {t : List LiM} {v : Nat → Value} {y : LiM} {ha qa : Option Addr} {hc qc : Nat} (hT : OwnT W B tv t v) (h50 : t.length < 50) (hg : tv.ownBlock = some g) (hp : p < t.length)
    (hy : LiIn w' B g (0 + p * 3) y ha hc qa qc) (hcell : ∀ i, (i < p * 3 ∨ p * 3 + 3 ≤ i) → w'.cell? ⟨g, i, none⟩ = W.cell? ⟨g, i, none⟩) (hrow : ∀ i, i < 100 → i ≠ 2 * p → i ≠ 2 * p + 1 → ∀ b, (v i).ownBlock = some b → w'.heap[b]? = W.heap[b]?) (hs : W.heap.size ≤ w'.heap.size) : LisIn w' B (some ⟨g, 0, none⟩) (t.set p y) := by
  have hgl := hT.tab.lt g hg
  refine Or.inr ⟨g, 0, rfl, hgl.1, by omega, fun k hk => ?_⟩
  rw [List.length_set] at hk
  by_cases e : k = p
  · subst e
    rw [List.getElem_set_self]
    exact ⟨ha, hc, qa, qc, hy⟩
  · rw [List.getElem_set_ne (Ne.symm e)]
    obtain ⟨ha', hc', qa', qc', f1, f2, h⟩ := hT.item (by omega) hk hg
    have hin : ∀ (i : Nat) (l : List LkM) (a : Option Addr) (n c : Nat), i < 100 → i ≠ 2 * p → i ≠ 2 * p + 1 → v i = .slice a n c → LksIn W B a l → LksIn w' B a l := fun i l a n c hi h1 h2 hv hl => hl.imp id fun ⟨b, off, e1, e2, e3, e4⟩ => by
      have hb := hrow i hi h1 h2 b (by rw [hv, e1]; rfl)
      exact ⟨b, off, e1, e2, by omega, fun k hk => ⟨(World.cell?_of_block (a := ⟨b, off + k * 2, none⟩) hb).trans (e4 k hk).1, (World.cell?_of_block (a := ⟨b, off + k * 2 + 1, none⟩) hb).trans (e4 k hk).2⟩⟩
    refine ⟨ha', hc', qa', qc', ?_, ?_, ?_, hin (2 * k) _ _ _ _ (by omega) (by omega) (by omega) f1 h.held, hin (2 * k + 1) _ _ _ _ (by omega) (by omega) (by omega) f2 h.queue, h.hcap, h.qcap, h.hnil, h.qnil⟩
    · rw [hcell _ (by omega)]; exact h.c0
    · rw [hcell _ (by omega)]; exact h.c1
    · rw [hcell _ (by omega)]; exact h.c2
end LkM
end Go.Proofs.Ytjbmkhalmmahkaa
