/- BELADY over plain lists: no schedule hits more often than Best's. -/
import Derived.Test.YtnolidjjeknmmaaPoolRoomM
namespace Go.Proofs.Ytnolidjjeknmmaa

theorem PoolM.len_le {A : List Int} : ∀ {B : List Int}, A.Nodup → (∀ x, x ∈ A → x ∈ B) → A.length ≤ B.length := by
  induction A with
  | nil => intro B _ _; exact Nat.zero_le _
  | cons a A ih =>
    intro B hn h
    rw [List.nodup_cons] at hn
    have ha := h a (by simp)
    have h1 := ih (B := B.erase a) hn.2 (fun x hx => (List.mem_erase_of_ne (by rintro rfl; exact hn.1 hx)).2 (h x (by simp [hx])))
    have h2 := List.length_erase_of_mem ha
    have h3 : 0 < B.length := List.length_pos_of_mem ha
    simp only [List.length_cons]; omega

theorem PoolM.next_ge (refs : List Int) (x : Int) (t : Nat) (ht : t ≤ refs.length) : t ≤ PoolM.next refs x t := by
  unfold PoolM.next
  split <;> omega
theorem PoolM.next_here (refs : List Int) (t : Nat) (ht : t < refs.length) : PoolM.next refs (refs.getD t 0) t = t := by
  unfold PoolM.next
  have hl : (refs.drop t).length = refs.length - t := List.length_drop ..
  have h0 : (refs.drop t).findIdx (fun y => refs.getD t 0 == y) = 0 := by
    rw [List.drop_eq_getElem_cons ht, List.findIdx_cons]
    have : (refs.getD t 0 == refs[t]) = true := by
      rw [List.getD_eq_getElem?_getD, List.getElem?_eq_getElem ht]; simp
    rw [this]; rfl
  rw [h0, if_pos (by omega)]; omega
theorem PoolM.next_on (refs : List Int) (x : Int) (t : Nat) (ht : t < refs.length) (hx : x ≠ refs.getD t 0) : PoolM.next refs x t = PoolM.next refs x (t + 1) := by
  unfold PoolM.next
  have h1 : (x == refs[t]) = false := by
    rw [List.getD_eq_getElem?_getD, List.getElem?_eq_getElem ht] at hx
    simpa using hx
  rw [List.drop_eq_getElem_cons ht, List.findIdx_cons, h1]
  simp only [cond_false, List.length_cons]
  generalize (refs.drop (t + 1)).findIdx (fun y => x == y) = k
  by_cases h : k < (refs.drop (t + 1)).length
  · rw [if_pos (by omega), if_pos h]; omega
  · rw [if_neg (by omega), if_neg h]

structure PoolM.Sched (size : Nat) (refs : List Int) (X : Nat → List Int) : Prop where
  zero : X 0 = []
  nodup : ∀ t, t ≤ refs.length → (X t).Nodup
  le : ∀ t, t ≤ refs.length → (X t).length ≤ size
  step : ∀ t, t < refs.length → ∀ x, x ∈ X (t + 1) → x ∈ X t ∨ x = refs.getD t 0
  has : ∀ t, t < refs.length → refs.getD t 0 ∈ X (t + 1)
/-- How often what was asked for was there, in the first t. -/
def PoolM.cnt (refs : List Int) (X : Nat → List Int) (t : Nat) : Nat := (List.range t).countP fun j => decide (refs.getD j 0 ∈ X j)
theorem PoolM.cnt_succ (refs : List Int) (X : Nat → List Int) (t : Nat) : PoolM.cnt refs X (t + 1) = PoolM.cnt refs X t + if refs.getD t 0 ∈ X t then 1 else 0 := by
  unfold PoolM.cnt
  rw [List.range_succ, List.countP_append]
  simp [List.countP_cons]
/-- How many come again ahead of p. -/
def PoolM.soon (refs : List Int) (t p : Nat) (l : List Int) : Nat := l.countP fun x => decide (PoolM.next refs x t < p)

theorem PoolM.soon_le (refs : List Int) (t p : Nat) (l : List Int) : PoolM.soon refs t p l ≤ l.length := List.countP_le_length
theorem PoolM.soon_none (refs : List Int) (t p : Nat) (l : List Int) (ht : t ≤ refs.length) (hp : p ≤ t) : PoolM.soon refs t p l = 0 := by
  unfold PoolM.soon
  rw [List.countP_eq_zero]
  intro x _
  have := PoolM.next_ge refs x t ht
  simp; omega

/-- Whatever is kept of X, and the one that came. -/
theorem PoolM.soon_up {refs : List Int} {t p : Nat} (ht : t < refs.length) (hp : t < p) {X X' : List Int} (hX' : X'.Nodup) (h : ∀ x, x ∈ X' → x ∈ X ∨ x = refs.getD t 0) :
    PoolM.soon refs (t + 1) p X' + (if refs.getD t 0 ∈ X then 1 else 0) ≤ PoolM.soon refs t p X + (if PoolM.next refs (refs.getD t 0) (t + 1) < p then 1 else 0) := by
  have hhere := PoolM.next_here refs t ht
  have hon := PoolM.next_on refs (ht := ht)
  generalize hr : refs.getD t 0 = r at *
  unfold PoolM.soon
  rw [List.countP_eq_length_filter, List.countP_eq_length_filter]
  have hA : (X'.filter (fun x => decide (PoolM.next refs x (t + 1) < p))).Nodup := hX'.sublist List.filter_sublist
  have hmA : ∀ x, x ∈ X'.filter (fun x => decide (PoolM.next refs x (t + 1) < p)) → (x ∈ X ∨ x = r) ∧ PoolM.next refs x (t + 1) < p := fun x hx => by
    rw [List.mem_filter] at hx
    exact ⟨h x hx.1, by simpa using hx.2⟩
  generalize X'.filter (fun x => decide (PoolM.next refs x (t + 1) < p)) = A at *
  have hmC : ∀ x, x ∈ X → PoolM.next refs x t < p → x ∈ X.filter (fun x => decide (PoolM.next refs x t < p)) := fun x hx hn => by
    rw [List.mem_filter]; exact ⟨hx, by simpa using hn⟩
  generalize X.filter (fun x => decide (PoolM.next refs x t < p)) = C at *
  have hA0 : (A.erase r).length ≤ (C.erase r).length := PoolM.len_le (hA.sublist List.erase_sublist) (fun x hx => by
    have hxr : x ≠ r := fun e => (List.Nodup.not_mem_erase hA) (e ▸ hx)
    have hx2 := hmA x (List.mem_of_mem_erase hx)
    refine (List.mem_erase_of_ne hxr).2 (hmC x (hx2.1.resolve_right hxr) ?_)
    rw [hon x hxr]; exact hx2.2)
  have hAl : A.length ≤ (A.erase r).length + (if PoolM.next refs r (t + 1) < p then 1 else 0) := by
    by_cases hm : r ∈ A
    · have h1 := List.length_erase_of_mem hm
      rw [if_pos (hmA r hm).2]; omega
    · rw [List.erase_of_not_mem hm]; omega
  have hCl : (C.erase r).length + (if r ∈ X then 1 else 0) ≤ C.length := by
    by_cases hm : r ∈ X
    · have hrC := hmC r hm (by omega)
      have h1 := List.length_erase_of_mem hrC
      have h2 : 0 < C.length := List.length_pos_of_mem hrC
      rw [if_pos hm]; omega
    · rw [if_neg hm]
      have := List.length_erase_le (a := r) (l := C)
      omega
  omega
theorem PoolM.soon_hit {refs : List Int} {t p : Nat} (ht : t < refs.length) {B : List Int} (hB : B.Nodup) :
    PoolM.soon refs t p B + (if PoolM.next refs (refs.getD t 0) (t + 1) < p then 1 else 0) ≤ PoolM.soon refs (t + 1) p B + 1 := by
  have hon := PoolM.next_on refs (ht := ht)
  generalize hr : refs.getD t 0 = r at *
  unfold PoolM.soon
  rw [List.countP_eq_length_filter, List.countP_eq_length_filter]
  have hC : (B.filter (fun x => decide (PoolM.next refs x t < p))).Nodup := hB.sublist List.filter_sublist
  have hmC : ∀ x, x ∈ B.filter (fun x => decide (PoolM.next refs x t < p)) → x ∈ B ∧ PoolM.next refs x t < p := fun x hx => by
    rw [List.mem_filter] at hx
    exact ⟨hx.1, by simpa using hx.2⟩
  have hmA : ∀ x, x ∈ B → PoolM.next refs x (t + 1) < p → x ∈ B.filter (fun x => decide (PoolM.next refs x (t + 1) < p)) := fun x hx hn => by
    rw [List.mem_filter]; exact ⟨hx, by simpa using hn⟩
  generalize B.filter (fun x => decide (PoolM.next refs x t < p)) = C at *
  generalize B.filter (fun x => decide (PoolM.next refs x (t + 1) < p)) = A at *
  by_cases hq : PoolM.next refs r (t + 1) < p
  · rw [if_pos hq]
    have := PoolM.len_le hC (B := A) (fun x hx => by
      obtain ⟨h1, h2⟩ := hmC x hx
      by_cases hxr : x = r
      · subst hxr; exact hmA x h1 hq
      · exact hmA x h1 (by rw [← hon x hxr]; exact h2))
    omega
  · rw [if_neg hq]
    have h1 := PoolM.len_le (hC.sublist List.erase_sublist) (A := C.erase r) (B := A) (fun x hx => by
      have hxr : x ≠ r := fun e => (List.Nodup.not_mem_erase hC) (e ▸ hx)
      obtain ⟨h1, h2⟩ := hmC x (List.mem_of_mem_erase hx)
      exact hmA x h1 (by rw [← hon x hxr]; exact h2))
    have h2 := List.length_erase_le (a := r) (l := C)
    have h3 : C.length ≤ (C.erase r).length + 1 := by
      by_cases hm : r ∈ C
      · have := List.length_erase_of_mem hm; omega
      · rw [List.erase_of_not_mem hm]; omega
    omega
theorem PoolM.soon_same {refs : List Int} {t p : Nat} (ht : t < refs.length) {B : List Int} (hr : refs.getD t 0 ∉ B) : PoolM.soon refs (t + 1) p B = PoolM.soon refs t p B := by
  unfold PoolM.soon
  refine List.countP_congr (fun x hx => ?_)
  rw [PoolM.next_on refs x t ht (fun e => hr (e ▸ hx))]
theorem PoolM.soon_snoc (refs : List Int) (t p : Nat) (B : List Int) (r : Int) : PoolM.soon refs t p (B ++ [r]) = PoolM.soon refs t p B + if PoolM.next refs r t < p then 1 else 0 := by
  unfold PoolM.soon
  rw [List.countP_append]
  simp [List.countP_cons]
theorem PoolM.soon_erase (refs : List Int) (t p : Nat) (B : List Int) (k : Nat) (hk : k < B.length) : PoolM.soon refs t p B = PoolM.soon refs t p (B.eraseIdx k) + if PoolM.next refs B[k] t < p then 1 else 0 := by
  unfold PoolM.soon
  rw [List.eraseIdx_eq_take_drop_succ, List.countP_append]
  have e : B = B.take k ++ B[k] :: B.drop (k + 1) := by
    conv => lhs; rw [← List.take_append_drop k B, List.drop_eq_getElem_cons hk]
  conv => lhs; rw [e]
  rw [List.countP_append, List.countP_cons]
  simp only [decide_eq_true_eq]
  omega
theorem PoolM.far_max (refs l : List Int) (i : Nat) : ∀ k, k ≤ l.length → ∀ j, j < k → PoolM.next refs (l.getD j 0) i ≤ PoolM.next refs (l.getD (PoolM.far refs l i k) 0) i
  | 0, _, j, hj => by omega
  | k + 1, hk, j, hj => by
    have ih := PoolM.far_max refs l i k (by omega)
    unfold PoolM.far
    split
    · rename_i h
      by_cases e : j = k
      · subst e; exact Nat.le_refl _
      · have := ih j (by omega); omega
    · rename_i h
      by_cases e : j = k
      · subst e; omega
      · exact ih j (by omega)

theorem PoolM.belady (size : Nat) (h1 : 1 ≤ size) (refs : List Int) (S : Nat → List Int) (hS : PoolM.Sched size refs S) : ∀ t, t ≤ refs.length → ∀ p,
    PoolM.cnt refs S t + PoolM.soon refs t p (S t) ≤ PoolM.cnt refs (PoolM.kept (PoolM.farthest refs) PoolM.same size refs) t + PoolM.soon refs t p (PoolM.kept (PoolM.farthest refs) PoolM.same size refs t) := by
  intro t
  induction t with
  | zero => intro _ p; rw [hS.zero]; simp [PoolM.cnt, PoolM.soon]
  | succ t ih =>
    intro ht
    have ht' : t < refs.length := by omega
    have ih := ih (by omega)
    have hBl := PoolM.kept_len (PoolM.rule_best refs) size h1 refs t
    have hBi := PoolM.kept_inv (PoolM.rule_best refs) size refs t (by omega)
    have hBs : PoolM.kept (PoolM.farthest refs) PoolM.same size refs (t + 1) = PoolM.step (PoolM.farthest refs) PoolM.same size (PoolM.kept (PoolM.farthest refs) PoolM.same size refs t) t (refs.getD t 0) := rfl
    -- enough for p > t
    suffices hmain : ∀ p, t < p → PoolM.cnt refs S (t + 1) + PoolM.soon refs (t + 1) p (S (t + 1)) ≤ PoolM.cnt refs (PoolM.kept (PoolM.farthest refs) PoolM.same size refs) (t + 1) + PoolM.soon refs (t + 1) p (PoolM.kept (PoolM.farthest refs) PoolM.same size refs (t + 1)) by
      intro p
      by_cases hp : t < p
      · exact hmain p hp
      · have := hmain (t + 1) (by omega)
        rw [PoolM.soon_none _ _ _ _ ht (by omega), PoolM.soon_none _ _ _ _ ht (by omega)] at this ⊢
        exact this
    intro p hp
    rw [PoolM.cnt_succ, PoolM.cnt_succ]
    have hup := PoolM.soon_up ht' hp (hS.nodup (t + 1) ht) (hS.step t ht')
    have hSl := hS.le (t + 1) ht
    have hSl0 := hS.le t (by omega)
    have hShas := hS.has t ht'
    have i0 := ih t
    rw [PoolM.soon_none _ _ _ _ (by omega) (Nat.le_refl _), PoolM.soon_none _ _ _ _ (by omega) (Nat.le_refl _)] at i0
    have i1 := ih (t + 1)
    have ip := ih p
    generalize PoolM.cnt refs (PoolM.kept (PoolM.farthest refs) PoolM.same size refs) t = HB at *
    generalize PoolM.cnt refs S t = HS at *
    rw [hBs]
    generalize PoolM.kept (PoolM.farthest refs) PoolM.same size refs t = B at *
    clear hBs ih
    have hS1 := PoolM.soon_le refs t p (S t)
    have hhere := PoolM.next_here refs t ht'
    by_cases hB : refs.getD t 0 ∈ B
    · have e : PoolM.step (PoolM.farthest refs) PoolM.same size B t (refs.getD t 0) = B := by unfold PoolM.step; rw [if_pos hB]; rfl
      rw [e, if_pos hB]
      have := PoolM.soon_hit ht' hBi.nodup (p := p)
      omega
    · rw [if_neg hB]
      have hsame := PoolM.soon_same ht' hB (p := p)
      -- what S has when it hits and Best does not
      have hgain : refs.getD t 0 ∈ S t → HS + 1 ≤ HB := by
        intro hm
        have a : 1 ≤ PoolM.soon refs t (t + 1) (S t) := by
          unfold PoolM.soon
          exact List.countP_pos_iff.2 ⟨_, hm, by rw [hhere]; simp⟩
        have b : PoolM.soon refs t (t + 1) B = 0 := by
          unfold PoolM.soon
          rw [List.countP_eq_zero]
          intro x hx
          have h3 := PoolM.next_on refs x t ht' (fun e => hB (e ▸ hx))
          have h4 := PoolM.next_ge refs x (t + 1) ht
          simp; omega
        omega
      have hcount : PoolM.soon refs (t + 1) p (S (t + 1)) ≤ size - 1 + (if PoolM.next refs (refs.getD t 0) (t + 1) < p then 1 else 0) := by
        by_cases hq : PoolM.next refs (refs.getD t 0) (t + 1) < p
        · have := PoolM.soon_le refs (t + 1) p (S (t + 1))
          rw [if_pos hq]; omega
        · rw [if_neg hq]
          have h5 := List.length_eq_countP_add_countP (fun x => decide (PoolM.next refs x (t + 1) < p)) (l := S (t + 1))
          have h6 : 0 < (S (t + 1)).countP (fun x => ¬ decide (PoolM.next refs x (t + 1) < p) = true) := List.countP_pos_iff.2 ⟨_, hShas, by simpa using hq⟩
          have h7 : PoolM.soon refs (t + 1) p (S (t + 1)) = (S (t + 1)).countP (fun x => decide (PoolM.next refs x (t + 1) < p)) := rfl
          omega
      by_cases hfull : B.length = size
      · have hk : PoolM.farthest refs B t < B.length := (PoolM.rule_best refs).pick B t (by omega)
        have e : PoolM.step (PoolM.farthest refs) PoolM.same size B t (refs.getD t 0) = B.eraseIdx (PoolM.farthest refs B t) ++ [refs.getD t 0] := by
          unfold PoolM.step; rw [if_neg hB, if_pos hfull]
        rw [e, PoolM.soon_snoc]
        have hmax : ∀ x, x ∈ B → PoolM.next refs x t ≤ PoolM.next refs B[PoolM.farthest refs B t] t := by
          intro x hx
          obtain ⟨j, hj, rfl⟩ := List.mem_iff_getElem.1 hx
          have := PoolM.far_max refs B t B.length (Nat.le_refl _) j hj
          rw [show PoolM.far refs B t B.length = PoolM.farthest refs B t from rfl, List.getD_eq_getElem?_getD, List.getElem?_eq_getElem hj, List.getD_eq_getElem?_getD, List.getElem?_eq_getElem hk] at this
          exact this
        have her := PoolM.soon_erase refs t p B _ hk
        have hre : refs.getD t 0 ∉ B.eraseIdx (PoolM.farthest refs B t) := fun h => hB (List.mem_of_mem_eraseIdx h)
        have hsame2 := PoolM.soon_same ht' hre (p := p)
        by_cases hev : PoolM.next refs B[PoolM.farthest refs B t] t < p
        · rw [if_pos hev] at her
          have hall : PoolM.soon refs t p B = B.length := by
            unfold PoolM.soon
            rw [List.countP_eq_length]
            intro x hx
            have := hmax x hx
            simp; omega
          by_cases hm : refs.getD t 0 ∈ S t
          · have := hgain hm
            rw [if_pos hm] at hup ⊢
            omega
          · rw [if_neg hm] at hup ⊢
            omega
        · rw [if_neg hev] at her
          omega
      · have e : PoolM.step (PoolM.farthest refs) PoolM.same size B t (refs.getD t 0) = B ++ [refs.getD t 0] := by
          unfold PoolM.step; rw [if_neg hB, if_neg hfull]
        rw [e, PoolM.soon_snoc]
        omega
end Go.Proofs.Ytnolidjjeknmmaa
