/- buddy, in plain Lean: KNOWLTON's law. -/
import Derived.Test.YtfmgncfikaefhaaBudM
namespace Go.Proofs.Ytfmgncfikaefhaa
open Go.RowKit Go.Lib

theorem BudM.cnt_taken : ∀ (T : List BkM), T.Pairwise (fun x y => x.at_ + 2 ^ x.ord.toNat ≤ y.at_) → ∀ p, BudM.cnt T p = if ∀ x ∈ T, ¬ (x.at_ ≤ p ∧ p < x.at_ + 2 ^ x.ord.toNat) then 0 else 1
  | [], _, p => by simp [BudM.cnt]
  | x :: r, h, p => by
    obtain ⟨h1, h2⟩ := List.pairwise_cons.1 h
    have ih := BudM.cnt_taken r h2 p
    unfold BudM.cnt at ih ⊢
    rw [List.countP_cons, ih]
    by_cases hx : x.at_ ≤ p ∧ p < x.at_ + 2 ^ x.ord.toNat
    · rw [if_pos (show ∀ y ∈ r, ¬ (y.at_ ≤ p ∧ p < y.at_ + 2 ^ y.ord.toNat) from fun y hy hyp => by have := h1 y hy; omega), if_pos ((BudM.has_iff _ _).2 hx), if_neg (fun hh => hh x List.mem_cons_self hx)]
    · rw [if_neg (fun hh => hx ((BudM.has_iff _ _).1 hh))]
      by_cases hr : ∀ y ∈ r, ¬ (y.at_ ≤ p ∧ p < y.at_ + 2 ^ y.ord.toNat)
      · rw [if_pos hr, if_pos]
        intro y hy
        rcases List.mem_cons.1 hy with rfl | hy
        · exact hx
        · exact hr y hy
      · rw [if_neg hr, if_neg (fun hh => hr (fun y hy => hh y (List.mem_cons_of_mem _ hy)))]
theorem BudM.fine_al {n : Nat} {x : BkM} (h : BudM.Fine n x) : BudM.Al x := ⟨h.1, h.2.2.2.1⟩
theorem BudM.whole {m : Nat} {T : List BkM} (hf : ∀ x ∈ T, BudM.Fine m x) (hd : T.Pairwise (fun x y => x.at_ + 2 ^ x.ord.toNat ≤ y.at_)) {p : Int} (h0 : 0 ≤ p) (h1 : p < 2 ^ m) : BudM.cnt (T ++ BudM.free m T 0) p = 1 := by
  have e : BudM.cnt (T ++ BudM.free m T 0) p = BudM.cnt T p + BudM.cnt (BudM.free m T 0) p := by unfold BudM.cnt; rw [List.countP_append]
  rw [e, BudM.cnt_taken T hd p, BudM.cover m T 0 (fun x hx => BudM.fine_al (hf x hx)) ⟨0, by omega⟩ p]
  by_cases h : ∀ x ∈ T, ¬ (x.at_ ≤ p ∧ p < x.at_ + 2 ^ x.ord.toNat)
  · rw [if_pos h, if_pos ⟨⟨h0, by omega⟩, h⟩]
  · rw [if_neg h, if_neg (fun hh => h hh.2)]
theorem BudM.fine_free {m : Nat} {T : List BkM} : ∀ y ∈ BudM.free m T 0, BudM.Fine m y := by
  intro y hy
  obtain ⟨k, h1, h2, h3, h4, h5, _⟩ := BudM.parts m T 0 ⟨0, by omega⟩ y hy
  have e : y.ord.toNat = k := by omega
  exact ⟨by omega, by omega, h4, by rw [e]; exact h3, by rw [e]; omega⟩
theorem BudM.xor_halves {a b qa qb k : Nat} (ha : a = qa * 2 ^ k) (hb : b = qb * 2 ^ k) (h : a ^^^ b = 2 ^ k) : qa / 2 = qb / 2 ∧ qa ≠ qb := by
  have hp : 0 < 2 ^ k := Nat.pow_pos (by omega)
  have e1 : qa ^^^ qb = 1 := by
    have h2 : (a ^^^ b) >>> k = (2 ^ k) >>> k := by rw [h]
    rw [Nat.shiftRight_xor_distrib, Nat.shiftRight_eq_div_pow, Nat.shiftRight_eq_div_pow, Nat.shiftRight_eq_div_pow, ha, hb, Nat.mul_div_cancel _ hp, Nat.mul_div_cancel _ hp, Nat.div_self hp] at h2
    exact h2
  refine ⟨?_, ?_⟩
  · have h2 : (qa ^^^ qb) >>> 1 = 1 >>> 1 := by rw [e1]
    rw [Nat.shiftRight_xor_distrib] at h2
    have h3 : qa >>> 1 = qb >>> 1 := by
      have h4 : ((qa >>> 1) ^^^ (qb >>> 1)) ^^^ (qb >>> 1) = 0 ^^^ (qb >>> 1) := by rw [h2]; rfl
      rwa [Nat.xor_assoc, Nat.xor_self, Nat.xor_zero, Nat.zero_xor] at h4
    rw [Nat.shiftRight_eq_div_pow, Nat.shiftRight_eq_div_pow] at h3
    exact h3
  · intro e
    rw [e, Nat.xor_self] at e1
    omega
theorem BudM.apart {m : Nat} {T : List BkM} (hf : ∀ x ∈ T, BudM.Fine m x) {y z : BkM} (hy : y ∈ BudM.free m T 0) (hz : z ∈ BudM.free m T 0) (ho : y.ord = z.ord) : y.at_.toNat ^^^ z.at_.toNat ≠ 2 ^ y.ord.toNat := by
  intro hx
  obtain ⟨k, h1, h2, ⟨qy, h3⟩, h4, h5, h6⟩ := BudM.parts m T 0 ⟨0, by omega⟩ y hy
  obtain ⟨k', h1', h2', ⟨qz, h3'⟩, h4', h5', _⟩ := BudM.parts m T 0 ⟨0, by omega⟩ z hz
  obtain rfl : k = k' := by omega
  have e : y.ord.toNat = k := by omega
  rw [e] at hx
  have hp := BudM.pow_pos k
  have nn : ∀ {q v : Int}, v = q * 2 ^ k → 0 ≤ v → 0 ≤ q := fun {q v} h hv => by
    rcases Int.lt_or_le q 0 with hq | hq
    · have := Int.mul_neg_of_neg_of_pos hq hp; omega
    · exact hq
  have hqy := nn h3 h4
  have hqz := nn h3' h4'
  obtain ⟨ny, rfl⟩ := Int.eq_ofNat_of_zero_le hqy
  obtain ⟨nz, rfl⟩ := Int.eq_ofNat_of_zero_le hqz
  have c2 : ((2 ^ k : Nat) : Int) = 2 ^ k := by simp
  have ey : y.at_.toNat = ny * 2 ^ k := by rw [h3, ← c2, ← Int.natCast_mul, Int.toNat_natCast]
  have ez : z.at_.toNat = nz * 2 ^ k := by rw [h3', ← c2, ← Int.natCast_mul, Int.toNat_natCast]
  obtain ⟨hh, hne⟩ := BudM.xor_halves ey ez hx
  rcases h6 with ⟨rfl, h6⟩ | ⟨x, hxT, q, ⟨h7, h8⟩, h9, h10⟩
  · have : z.at_ = 0 := by omega
    rw [h6, this] at hx
    simp at hx
    have := Nat.pow_pos (n := k) (show 0 < 2 by omega)
    omega
  · have hps := BudM.pow_succ k
    have eq1 : q * 2 ^ (k + 1) = (2 * q) * 2 ^ k := by rw [hps, ← Int.mul_assoc, Int.mul_comm q 2]
    have eq2 : q * 2 ^ (k + 1) + 2 ^ (k + 1) = (2 * q + 2) * 2 ^ k := by rw [eq1, hps, Int.add_mul]
    rw [eq2] at h8 h9
    rw [eq1] at h7 h10
    have l1 : (2 * q) ≤ (ny : Int) := by rw [h3] at h7; exact Int.le_of_mul_le_mul_right h7 hp
    have l2 : (ny : Int) < 2 * q + 2 := by
      have : (ny : Int) * 2 ^ k < (2 * q + 2) * 2 ^ k := by omega
      exact Int.lt_of_mul_lt_mul_right this (Int.le_of_lt hp)
    have hxp : (2 : Int) ^ x.ord.toNat > 0 := BudM.pow_pos _
    obtain ⟨p, p1, p2, p3, p4⟩ : ∃ p, x.at_ ≤ p ∧ p < x.at_ + 2 ^ x.ord.toNat ∧ 2 * q * 2 ^ k ≤ p ∧ p < (2 * q + 2) * 2 ^ k := by
      have : (2 * q + 2) * 2 ^ k = 2 * q * 2 ^ k + 2 * 2 ^ k := Int.add_mul _ _ _
      by_cases hc : x.at_ ≤ 2 * q * 2 ^ k
      · exact ⟨2 * q * 2 ^ k, hc, h10, Int.le_refl _, by omega⟩
      · exact ⟨x.at_, Int.le_refl _, by omega, by omega, h9⟩
    have e3 : (2 * q + 1) * 2 ^ k = 2 * q * 2 ^ k + 2 ^ k := by rw [Int.add_mul, Int.one_mul]
    have e4 : (2 * q + 2) * 2 ^ k = 2 * q * 2 ^ k + 2 * 2 ^ k := Int.add_mul _ _ _
    have hin : ∃ v ∈ BudM.free m T 0, BudM.has p v = true := by
      have key : ∀ (n : Nat) (v : BkM), v ∈ BudM.free m T 0 → v.ord = k → v.at_ = (n : Int) * 2 ^ k → (n : Int) * 2 ^ k ≤ p → p < (n : Int) * 2 ^ k + 2 ^ k → ∃ v ∈ BudM.free m T 0, BudM.has p v = true := fun n v hv hv1 hv2 hv3 hv4 =>
        ⟨v, hv, (BudM.has_iff _ _).2 ⟨by omega, by have : v.ord.toNat = k := by omega
                                                   rw [this]; omega⟩⟩
      by_cases hl : p < (2 * q + 1) * 2 ^ k
      · by_cases hn : (ny : Int) = 2 * q
        · exact key ny y hy h1 h3 (by rw [hn]; omega) (by rw [hn]; omega)
        · have hn2 : (nz : Int) = 2 * q := by omega
          exact key nz z hz h1' h3' (by rw [hn2]; omega) (by rw [hn2]; omega)
      · by_cases hn : (ny : Int) = 2 * q + 1
        · exact key ny y hy h1 h3 (by rw [hn]; omega) (by rw [hn]; omega)
        · have hn2 : (nz : Int) = 2 * q + 1 := by omega
          exact key nz z hz h1' h3' (by rw [hn2]; omega) (by rw [hn2]; omega)
    obtain ⟨v, hv, hvp⟩ := hin
    have hc := BudM.cover m T 0 (fun x hx => BudM.fine_al (hf x hx)) ⟨0, by omega⟩ p
    rw [if_neg (fun hh => hh.2 x hxT ⟨p1, p2⟩)] at hc
    have : 0 < BudM.cnt (BudM.free m T 0) p := List.countP_pos_iff.2 ⟨v, hv, hvp⟩
    omega
end Go.Proofs.Ytfmgncfikaefhaa
