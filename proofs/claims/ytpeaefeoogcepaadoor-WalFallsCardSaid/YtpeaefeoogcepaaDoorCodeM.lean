/- Numbers as bytes, in plain Lean: what is put is got; what is got is what was put; a greater number has no fewer bytes. -/
import Init
namespace Go.Proofs.YtpeaefeoogcepaaDoor

/-- The bytes of a number: k more bytes may follow. -/
def CodeM.putF : Nat → Nat → List UInt8
  | 0, n => [UInt8.ofNat n]
  | k + 1, n => if n < 128 then [UInt8.ofNat n] else UInt8.ofNat (n % 128 + 128) :: CodeM.putF k (n / 128)
def CodeM.putNat (n : Nat) : List UInt8 := CodeM.putF 9 n

/-- What GetNat reads: from place i on, with what is read so far. -/
def CodeM.getF : Nat → Nat → List UInt8 → Nat × Nat × Int
  | _, _, [] => (0, 0, 3)
  | i, a, b :: r =>
    if i = 9 ∧ 1 < b.toNat then (0, 0, 2)
    else if b.toNat < 128 then
      if b.toNat = 0 ∧ 0 < i then (0, 0, 4) else (a + b.toNat * 128 ^ i, i + 1, 0)
    else CodeM.getF (i + 1) (a + b.toNat % 128 * 128 ^ i) r
def CodeM.getNat (l : List UInt8) : Nat × Nat × Int := CodeM.getF 0 0 l
theorem CodeM.putF_lt (k n : Nat) (h : n < 128) : CodeM.putF k n = [UInt8.ofNat n] := by
  cases k <;> simp [CodeM.putF, h]
theorem CodeM.putF_ge (k n : Nat) (h : ¬ n < 128) : CodeM.putF (k + 1) n = UInt8.ofNat (n % 128 + 128) :: CodeM.putF k (n / 128) := by
  simp [CodeM.putF, h]


theorem CodeM.getF_putF (more : List UInt8) : ∀ (k i a m : Nat), i + k = 9 → (i = 0 ∨ 0 < m) → m * 128 ^ i < 18446744073709551616 → m < 128 ^ (k + 1) →
    CodeM.getF i a (CodeM.putF k m ++ more) = (a + m * 128 ^ i, i + (CodeM.putF k m).length, 0) := by
  intro k
  induction k with
  | zero =>
    intro i a m hi h0 hm hlt
    have : i = 9 := by omega
    subst this
    have h1 : m ≤ 1 := by omega
    have e : (UInt8.ofNat m).toNat = m := by simp [UInt8.toNat_ofNat']; omega
    simp only [CodeM.putF, List.cons_append, List.nil_append, CodeM.getF, e]
    rw [if_neg (by omega), if_pos (by omega), if_neg (by omega)]
    simp
  | succ k ih =>
    intro i a m hi h0 hm hlt
    by_cases h : m < 128
    · have e : (UInt8.ofNat m).toNat = m := by simp [UInt8.toNat_ofNat']; omega
      rw [CodeM.putF_lt _ _ h]
      simp only [List.cons_append, List.nil_append, CodeM.getF, e]
      rw [if_neg (by omega), if_pos (by omega), if_neg (by omega)]
      simp
    · have e : (UInt8.ofNat (m % 128 + 128)).toNat = m % 128 + 128 := by simp [UInt8.toNat_ofNat']; omega
      rw [CodeM.putF_ge _ _ h]
      simp only [List.cons_append, CodeM.getF, e]
      rw [if_neg (by omega), if_neg (by omega)]
      have e2 : (m % 128 + 128) % 128 = m % 128 := by omega
      have hpow : 128 ^ (i + 1) = 128 ^ i * 128 := Nat.pow_succ _ _
      have hval : m % 128 * 128 ^ i + m / 128 * 128 ^ (i + 1) = m * 128 ^ i := by
        rw [hpow, Nat.mul_comm (128 ^ i) 128, ← Nat.mul_assoc, ← Nat.add_mul]
        congr 1
        omega
      rw [e2, ih (i + 1) _ (m / 128) (by omega) (Or.inr (by omega)) (by omega) (by rw [Nat.pow_succ] at hlt; omega), List.length_cons]
      rw [Prod.mk.injEq, Prod.mk.injEq]
      refine ⟨by omega, by omega, rfl⟩

/-- What is put is got, whatever stands behind. -/
theorem CodeM.get_put (n : Nat) (more : List UInt8) (hn : n < 18446744073709551616) : CodeM.getNat (CodeM.putNat n ++ more) = (n, (CodeM.putNat n).length, 0) := by
  have := CodeM.getF_putF more 9 0 0 n rfl (Or.inl rfl) (by simpa using hn) (by omega)
  simpa [CodeM.getNat, CodeM.putNat] using this

theorem CodeM.getF_ok : ∀ (l : List UInt8) (i a x k : Nat), i ≤ 9 → CodeM.getF i a l = (x, k, 0) →
    ∃ j m, k = i + j ∧ 1 ≤ j ∧ j ≤ l.length ∧ x = a + m * 128 ^ i ∧ m * 128 ^ i < 18446744073709551616 ∧ (i = 0 ∨ 0 < m) ∧ l.take j = CodeM.putF (9 - i) m := by
  intro l
  induction l with
  | nil => intro i a x k _ h; simp [CodeM.getF] at h
  | cons b r ih =>
    intro i a x k hi h
    have hb := b.toNat_lt
    simp only [CodeM.getF] at h
    split at h
    · simp at h
    · rename_i h1
      split at h
      · rename_i h2
        split at h
        · simp at h
        · rename_i h3
          rw [Prod.mk.injEq, Prod.mk.injEq] at h
          obtain ⟨rfl, rfl, _⟩ := h
          refine ⟨1, b.toNat, rfl, by omega, by simp, rfl, ?_, by omega, ?_⟩
          · by_cases h9 : i = 9
            · subst h9; omega
            · have : 128 ^ i ≤ 128 ^ 8 := Nat.pow_le_pow_right (by omega) (by omega)
              have := Nat.mul_le_mul (show b.toNat ≤ 127 by omega) this
              omega
          · rw [CodeM.putF_lt _ _ h2]; simp
      · rename_i h2
        obtain ⟨j, m, rfl, hj1, hj2, rfl, hm, h0, ht⟩ := ih (i + 1) _ x k (by omega) h
        have hm0 : 0 < m := by omega
        have hpow : 128 ^ (i + 1) = 128 ^ i * 128 := Nat.pow_succ _ _
        have hval : b.toNat % 128 * 128 ^ i + m * 128 ^ (i + 1) = (b.toNat % 128 + m * 128) * 128 ^ i := by
          rw [hpow, Nat.mul_comm (128 ^ i) 128, ← Nat.mul_assoc, ← Nat.add_mul]
        refine ⟨j + 1, b.toNat % 128 + m * 128, by omega, by omega, by simp; omega, by omega, ?_, by omega, ?_⟩
        · -- fits: the last byte is at place 9 at the most
          have hP : (18446744073709551616 : Nat) = 128 ^ (i + 1) * 2 ^ (64 - 7 * (i + 1)) := by
            rw [show (128 : Nat) = 2 ^ 7 from rfl, ← Nat.pow_mul, ← Nat.pow_add, show 7 * (i + 1) + (64 - 7 * (i + 1)) = 64 by omega]
          have h1 : m < 2 ^ (64 - 7 * (i + 1)) := by
            rw [hP, Nat.mul_comm m] at hm
            exact Nat.lt_of_mul_lt_mul_left hm
          have h2 : 128 ^ (i + 1) * (m + 1) ≤ 18446744073709551616 := by
            rw [hP]; exact Nat.mul_le_mul_left _ h1
          rw [Nat.mul_add, Nat.mul_one] at h2
          have h3 : b.toNat % 128 * 128 ^ i < 128 ^ (i + 1) := by
            rw [hpow, Nat.mul_comm (128 ^ i)]
            exact Nat.mul_lt_mul_of_pos_right (Nat.mod_lt _ (by omega)) (Nat.pow_pos (by omega))
          rw [← hval, Nat.mul_comm m]
          omega
        · have e9 : 9 - i = (9 - (i + 1)) + 1 := by omega
          rw [e9, CodeM.putF_ge _ _ (by omega), List.take_succ_cons, ht]
          congr 1
          · apply UInt8.toNat_inj.1
            simp [UInt8.toNat_ofNat']; omega
          · congr 1; omega

/-- What is got is what was put. -/
theorem CodeM.get_ok {l : List UInt8} {x k : Nat} (h : CodeM.getNat l = (x, k, 0)) :
    1 ≤ k ∧ k ≤ l.length ∧ x < 18446744073709551616 ∧ CodeM.putNat x = l.take k := by
  obtain ⟨j, m, hk, h1, h2, hx, hm, _, ht⟩ := CodeM.getF_ok l 0 0 x k (by omega) h
  have hj : k = j := by omega
  have hxm : x = m := by simpa using hx
  subst hj; subst hxm
  refine ⟨h1, h2, by simpa using hm, ?_⟩
  simpa [CodeM.putNat] using ht.symm

theorem CodeM.putF_len_mono : ∀ (k n m : Nat), n ≤ m → (CodeM.putF k n).length ≤ (CodeM.putF k m).length := by
  intro k
  induction k with
  | zero => intro n m _; simp [CodeM.putF]
  | succ k ih =>
    intro n m h
    by_cases h1 : n < 128
    · rw [CodeM.putF_lt _ _ h1]
      by_cases h2 : m < 128
      · rw [CodeM.putF_lt _ _ h2]; simp
      · rw [CodeM.putF_ge _ _ h2]; simp
    · rw [CodeM.putF_ge _ _ h1, CodeM.putF_ge _ _ (by omega)]
      have := ih (n / 128) (m / 128) (Nat.div_le_div_right h)
      simp only [List.length_cons]; omega
theorem CodeM.put_len_mono {n m : Nat} (h : n ≤ m) : (CodeM.putNat n).length ≤ (CodeM.putNat m).length := CodeM.putF_len_mono 9 n m h
theorem CodeM.putF_len : ∀ (k n : Nat), 1 ≤ (CodeM.putF k n).length ∧ (CodeM.putF k n).length ≤ k + 1 := by
  intro k
  induction k with
  | zero => intro n; simp [CodeM.putF]
  | succ k ih =>
    intro n
    by_cases h1 : n < 128
    · rw [CodeM.putF_lt _ _ h1]; simp
    · rw [CodeM.putF_ge _ _ h1]; have := ih (n / 128); simp only [List.length_cons]; omega
theorem CodeM.put_len (n : Nat) : 1 ≤ (CodeM.putNat n).length ∧ (CodeM.putNat n).length ≤ 10 := CodeM.putF_len 9 n

/-- Whole numbers of either sign as natural ones, and back. -/
def CodeM.zig (n : Int) : Nat := if n < 0 then (-2 * n - 1).toNat else (2 * n).toNat
def CodeM.zag (u : Nat) : Int := if u % 2 = 1 then -((u / 2 : Nat) : Int) - 1 else ((u / 2 : Nat) : Int)
theorem CodeM.zag_zig (n : Int) : CodeM.zag (CodeM.zig n) = n := by
  unfold CodeM.zag CodeM.zig
  split <;> split <;> omega
theorem CodeM.zig_lt (n : Int) (h1 : -9223372036854775808 ≤ n) (h2 : n ≤ 9223372036854775807) : CodeM.zig n < 18446744073709551616 := by
  unfold CodeM.zig
  split <;> omega

/-- Texts. -/
def CodeM.putText (l : List UInt8) : List UInt8 := CodeM.putNat l.length ++ l
def CodeM.getText (l : List UInt8) : List UInt8 × Nat × Int :=
  let x := CodeM.getNat l
  if x.2.2 ≠ 0 then ([], 0, x.2.2)
  else if 4096 < x.1 then ([], 0, 2)
  else if l.length - x.2.1 < x.1 then ([], 0, 3)
  else ((l.drop x.2.1).take x.1, x.2.1 + x.1, 0)
theorem CodeM.getText_put (l more : List UInt8) (h : l.length ≤ 4096) : CodeM.getText (CodeM.putText l ++ more) = (l, (CodeM.putText l).length, 0) := by
  have e : CodeM.getNat (CodeM.putText l ++ more) = (l.length, (CodeM.putNat l.length).length, 0) := by
    rw [CodeM.putText, List.append_assoc, CodeM.get_put _ _ (by omega)]
  unfold CodeM.getText
  simp only [e]
  rw [if_neg (by omega), if_neg (by omega), if_neg (by simp [CodeM.putText])]
  rw [Prod.mk.injEq, Prod.mk.injEq]
  refine ⟨?_, by simp [CodeM.putText], rfl⟩
  rw [CodeM.putText, List.append_assoc, List.drop_left, List.take_left]
theorem CodeM.getText_ok {l t : List UInt8} {k : Nat} (h : CodeM.getText l = (t, k, 0)) : t.length ≤ 4096 ∧ k ≤ l.length ∧ CodeM.putText t = l.take k := by
  unfold CodeM.getText at h
  generalize hx : CodeM.getNat l = x at h
  obtain ⟨n, j, e⟩ := x
  simp only at h
  by_cases he : e = 0
  · subst he
    obtain ⟨h1, h2, h3, h4⟩ := CodeM.get_ok hx
    rw [if_neg (by omega)] at h
    split at h
    · simp at h
    · split at h
      · simp at h
      · rw [Prod.mk.injEq, Prod.mk.injEq] at h
        obtain ⟨rfl, rfl, _⟩ := h
        have hlen : ((l.drop j).take n).length = n := by simp; omega
        refine ⟨by omega, by omega, ?_⟩
        rw [CodeM.putText, hlen, h4, List.take_add]
  · rw [if_pos he] at h
    simp at h
    exact absurd h.2.2 he
end Go.Proofs.YtpeaefeoogcepaaDoor
