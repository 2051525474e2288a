/- BuddyBack, in plain Lean: what was taken and dropped is as if it never was. -/
import Derived.Test.YtfmgncfikaefhaaBudM2
namespace Go.Proofs.Ytfmgncfikaefhaa

def BudM.Dis (x y : BkM) : Prop := x.at_ + 2 ^ x.ord.toNat ≤ y.at_ ∨ y.at_ + 2 ^ y.ord.toNat ≤ x.at_
theorem BudM.dis_symm {x y : BkM} (h : BudM.Dis x y) : BudM.Dis y x := h.symm
theorem BudM.go_of {m : Nat} : ∀ {T : List BkM} {e : Int}, (∀ x ∈ T, BudM.Fine m x ∧ e ≤ x.at_) → T.Pairwise (fun x y => x.at_ + 2 ^ x.ord.toNat ≤ y.at_) → BudM.go m e T = 0
  | [], _, _, _ => rfl
  | x :: r, e, h1, h2 => by
    obtain ⟨hx, hr⟩ := List.pairwise_cons.1 h2
    obtain ⟨⟨a, b, c, ⟨q, d⟩, f⟩, g⟩ := h1 x List.mem_cons_self
    unfold BudM.go
    have hb : BudM.bad m e x = false := by
      unfold BudM.bad
      simp only [Bool.or_eq_false_iff, decide_eq_false_iff_not]
      refine ⟨by omega, by omega, by omega, ?_, ?_⟩
      · rw [d, Int.mul_tmod_left]; simp
      · rw [show ((m : Int)).toNat = m by omega]; omega
    rw [if_neg (by rw [hb]; simp)]
    exact BudM.go_of (fun y hy => ⟨(h1 y (List.mem_cons_of_mem _ hy)).1, hx y hy⟩) hr
theorem BudM.check_of {m : Nat} {T : List BkM} (hm : m ≤ 10) (h1 : ∀ x ∈ T, BudM.Fine m x) (h2 : T.Pairwise (fun x y => x.at_ + 2 ^ x.ord.toNat ≤ y.at_)) : BudM.check m T = 0 := by
  unfold BudM.check
  rw [if_neg (by omega)]
  exact BudM.go_of (fun x hx => ⟨h1 x hx, (h1 x hx).2.2.1⟩) h2
/-- What is free meets nothing that is taken. -/
theorem BudM.free_dis {m : Nat} {T : List BkM} (hf : ∀ x ∈ T, BudM.Fine m x) {y : BkM} (hy : y ∈ BudM.free m T 0) : ∀ x ∈ T, BudM.Dis x y := by
  intro x hx
  have hc := fun p => BudM.cover m T 0 (fun x hx => BudM.fine_al (hf x hx)) ⟨0, by omega⟩ p
  have hno : ∀ p, y.at_ ≤ p → p < y.at_ + 2 ^ y.ord.toNat → ¬ (x.at_ ≤ p ∧ p < x.at_ + 2 ^ x.ord.toNat) := by
    intro p h1 h2
    have h3 := hc p
    have h4 : 0 < BudM.cnt (BudM.free m T 0) p := by
      unfold BudM.cnt
      rw [List.countP_pos_iff]
      exact ⟨y, hy, (BudM.has_iff p y).2 ⟨h1, h2⟩⟩
    split at h3
    · rename_i h5
      exact h5.2 x hx
    · omega
  have hpx := BudM.pow_pos x.ord.toNat
  have hpy := BudM.pow_pos y.ord.toNat
  unfold BudM.Dis
  by_cases h1 : x.at_ + 2 ^ x.ord.toNat ≤ y.at_
  · exact Or.inl h1
  · by_cases h2 : y.at_ + 2 ^ y.ord.toNat ≤ x.at_
    · exact Or.inr h2
    · exfalso
      by_cases h3 : x.at_ ≤ y.at_
      · exact hno y.at_ (by omega) (by omega) ⟨h3, by omega⟩
      · exact hno x.at_ (by omega) (by omega) ⟨by omega, by omega⟩
theorem BudM.part_fine {m : Nat} {T : List BkM} {y : BkM} (hy : y ∈ BudM.free m T 0) {k : Int} (h0 : 0 ≤ k) (h1 : k ≤ y.ord) : BudM.Fine m ⟨y.at_, k⟩ ∧ y.at_ + 2 ^ k.toNat ≤ y.at_ + 2 ^ y.ord.toNat := by
  obtain ⟨a, b, c, ⟨q, d⟩, e⟩ := BudM.fine_free y hy
  have hle : (2 : Int) ^ k.toNat ≤ 2 ^ y.ord.toNat := BudM.pow_le (by omega)
  refine ⟨⟨h0, by show k ≤ m; omega, c, ?_, by show y.at_ + 2 ^ k.toNat ≤ 2 ^ m; omega⟩, by omega⟩
  obtain ⟨t, ht⟩ : ∃ t, y.ord.toNat = t + k.toNat := ⟨y.ord.toNat - k.toNat, by omega⟩
  refine ⟨q * 2 ^ t, ?_⟩
  show y.at_ = q * 2 ^ t * 2 ^ k.toNat
  rw [d, ht, Int.pow_add, Int.mul_assoc]
/-- Two lists in strict order with the same members are one. -/
theorem BudM.sorted_eq : ∀ {A B : List BkM}, A.Perm B → A.Pairwise (fun x y => x.at_ < y.at_) → B.Pairwise (fun x y => x.at_ < y.at_) → A = B
  | [], B, h, _, _ => (List.nil_perm.1 h).symm
  | a :: A, [], h, _, _ => absurd h.length_eq (by simp)
  | a :: A, b :: B, h, hA, hB => by
    obtain ⟨h1, h2⟩ := List.pairwise_cons.1 hA
    obtain ⟨h3, h4⟩ := List.pairwise_cons.1 hB
    have e : a = b := by
      rcases List.mem_cons.1 (h.mem_iff.1 List.mem_cons_self) with e | ha
      · exact e
      · rcases List.mem_cons.1 (h.mem_iff.2 List.mem_cons_self) with e | hb
        · exact e.symm
        · have := h1 b hb; have := h3 a ha; omega
    subst e
    rw [BudM.sorted_eq (List.Perm.cons_inv h) h2 h4]
theorem BudM.back {m : Nat} {T T' : List BkM} (hm : m ≤ 10) (hf : ∀ x ∈ T, BudM.Fine m x) (hd : T.Pairwise (fun x y => x.at_ + 2 ^ x.ord.toNat ≤ y.at_)) {y : BkM} (hy : y ∈ BudM.free m T 0) {k : Int} (h0 : 0 ≤ k) (h1 : k ≤ y.ord)
    (hp : T'.Perm (T ++ [⟨y.at_, k⟩])) (hs : T'.Pairwise (fun x y => x.at_ ≤ y.at_)) :
    BudM.check m T' = 0 ∧ (∃ x ∈ T', x.at_ = y.at_) ∧ ∀ i, i < T'.length → T'.findIdx (fun x => x.at_ == y.at_) = i → T'.eraseIdx i = T := by
  obtain ⟨hz, hzl⟩ := BudM.part_fine hy h0 h1
  have hdz : ∀ x ∈ T, BudM.Dis x ⟨y.at_, k⟩ := by
    intro x hx
    rcases BudM.free_dis hf hy x hx with h | h
    · exact Or.inl h
    · exact Or.inr (by show y.at_ + 2 ^ k.toNat ≤ x.at_; omega)
  have hD : (T ++ [(⟨y.at_, k⟩ : BkM)]).Pairwise BudM.Dis := by
    rw [List.pairwise_append]
    refine ⟨hd.imp fun h => Or.inl h, List.pairwise_singleton _ _, fun x hx z hz' => ?_⟩
    rw [List.mem_singleton] at hz'
    subst hz'
    exact hdz x hx
  have hD' : T'.Pairwise BudM.Dis := (hp.symm.pairwise_iff (fun h => BudM.dis_symm h)).1 hD
  have hF' : ∀ x ∈ T', BudM.Fine m x := by
    intro x hx
    rcases List.mem_append.1 (hp.mem_iff.1 hx) with h | h
    · exact hf x h
    · rw [List.mem_singleton] at h; subst h; exact hz
  have hS : T'.Pairwise (fun x y => x.at_ + 2 ^ x.ord.toNat ≤ y.at_) := by
    refine (hs.and hD').imp ?_
    rintro a b ⟨h1, h2⟩
    have := BudM.pow_pos b.ord.toNat
    rcases h2 with h2 | h2
    · exact h2
    · omega
  have hlt : ∀ {l : List BkM}, l.Pairwise (fun x y => x.at_ + 2 ^ x.ord.toNat ≤ y.at_) → l.Pairwise (fun x y => x.at_ < y.at_) := fun h => h.imp fun {a b} h => by have := BudM.pow_pos a.ord.toNat; omega
  refine ⟨BudM.check_of hm hF' hS, ⟨⟨y.at_, k⟩, hp.mem_iff.2 (List.mem_append_right _ (List.mem_singleton.2 rfl)), rfl⟩, fun i hi hfi => ?_⟩
  have hget : (T'[i].at_ == y.at_) = true := by
    have := List.findIdx_getElem (xs := T') (p := fun x => x.at_ == y.at_) (w := by rw [hfi]; exact hi)
    simpa only [hfi] using this
  have hat : T'[i].at_ = y.at_ := by simpa using hget
  have hzi : T'[i] = ⟨y.at_, k⟩ := by
    rcases List.mem_append.1 (hp.mem_iff.1 (List.getElem_mem hi)) with h | h
    · have h2 := hdz _ h
      have h3 := BudM.pow_pos (T'[i]).ord.toNat
      have h4 := BudM.pow_pos k.toNat
      unfold BudM.Dis at h2
      simp only at h2
      rw [hat] at h2
      omega
    · exact List.mem_singleton.1 h
  have hpe : (T'[i] :: T'.eraseIdx i).Perm T' := by
    rw [List.eraseIdx_eq_take_drop_succ]
    have e : T' = T'.take i ++ T'[i] :: T'.drop (i + 1) := by
      conv => lhs; rw [← List.take_append_drop i T', List.drop_eq_getElem_cons hi]
    conv => rhs; rw [e]
    exact List.perm_middle.symm
  have hq : (T'.eraseIdx i).Perm T := by
    have h5 : (T'[i] :: T'.eraseIdx i).Perm (T'[i] :: T) := by
      rw [hzi] at hpe ⊢
      exact (hpe.trans hp).trans (List.perm_append_comm.trans (List.Perm.refl _))
    exact List.Perm.cons_inv h5
  exact BudM.sorted_eq hq ((hlt hS).sublist (List.eraseIdx_sublist ..)) (hlt hd)
end Go.Proofs.Ytfmgncfikaefhaa
