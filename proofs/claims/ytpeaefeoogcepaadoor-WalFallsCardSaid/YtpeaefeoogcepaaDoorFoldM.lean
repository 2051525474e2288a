/- FLETCHER, in plain Lean: whatever one or two bytes are other is told by the sum. -/
import Derived.Test.YtpeaefeoogcepaaDoorFold
namespace Go.Proofs.YtpeaefeoogcepaaDoor

/-- the plain sum, and the one where each byte counts as often as there are bytes from it on -/
def FoldSum.w1 : List UInt8 → Nat
  | [] => 0
  | c :: l => c.toNat + FoldSum.w1 l
def FoldSum.w2 : List UInt8 → Nat
  | [] => 0
  | c :: l => (l.length + 1) * c.toNat + FoldSum.w2 l

theorem FoldSum.fold_w : ∀ (l : List UInt8) (a b : Nat), a < 65521 → b < 65521 →
    l.foldl FoldSum.step (a, b) = ((a + FoldSum.w1 l) % 65521, (b + l.length * a + FoldSum.w2 l) % 65521) := by
  intro l
  induction l with
  | nil => intro a b ha hb; simp [FoldSum.w1, FoldSum.w2, Nat.mod_eq_of_lt ha, Nat.mod_eq_of_lt hb]
  | cons c l ih =>
    intro a b ha hb
    rw [List.foldl_cons]
    have h1 : (a + c.toNat) % 65521 < 65521 := Nat.mod_lt _ (by omega)
    have h2 : (b + (a + c.toNat) % 65521) % 65521 < 65521 := Nat.mod_lt _ (by omega)
    show l.foldl FoldSum.step ((a + c.toNat) % 65521, (b + (a + c.toNat) % 65521) % 65521) = _
    rw [ih _ _ h1 h2]
    simp only [FoldSum.w1, FoldSum.w2, List.length_cons, Prod.mk.injEq]
    refine ⟨by omega, ?_⟩
    have e1 : l.length * ((a + c.toNat) % 65521) % 65521 = l.length * (a + c.toNat) % 65521 := by
      rw [Nat.mul_mod, Nat.mod_mod, ← Nat.mul_mod]
    have e2 : l.length * (a + c.toNat) = l.length * a + l.length * c.toNat := Nat.mul_add _ _ _
    have e3 : (l.length + 1) * a = l.length * a + a := by rw [Nat.add_mul]; omega
    have e4 : (l.length + 1) * c.toNat = l.length * c.toNat + c.toNat := by rw [Nat.add_mul]; omega
    rw [e3, e4]
    rw [e2] at e1
    generalize l.length * ((a + c.toNat) % 65521) = X at *
    generalize l.length * a = Y at *
    generalize l.length * c.toNat = Z at *
    omega

theorem FoldSum.ab_w (l : List UInt8) : FoldSum.ab l = ((1 + FoldSum.w1 l) % 65521, (l.length + FoldSum.w2 l) % 65521) := by
  have := FoldSum.fold_w l 1 0 (by omega) (by omega)
  simp only [FoldSum.ab, this, Nat.zero_add, Nat.mul_one]

theorem FoldSum.w1_set : ∀ (l : List UInt8) (i : Nat) (a : UInt8) (h : i < l.length), FoldSum.w1 (l.set i a) + l[i].toNat = FoldSum.w1 l + a.toNat := by
  intro l
  induction l with
  | nil => intro i a h; simp at h
  | cons c l ih =>
    intro i a h
    cases i with
    | zero => simp only [List.set_cons_zero, FoldSum.w1, List.getElem_cons_zero]; omega
    | succ i =>
      have := ih i a (by simpa using h)
      simp only [List.set_cons_succ, FoldSum.w1, List.getElem_cons_succ]; omega
theorem FoldSum.w2_set : ∀ (l : List UInt8) (i : Nat) (a : UInt8) (h : i < l.length), FoldSum.w2 (l.set i a) + (l.length - i) * l[i].toNat = FoldSum.w2 l + (l.length - i) * a.toNat := by
  intro l
  induction l with
  | nil => intro i a h; simp at h
  | cons c l ih =>
    intro i a h
    cases i with
    | zero => simp only [List.set_cons_zero, FoldSum.w2, List.getElem_cons_zero, List.length_cons, Nat.sub_zero]; omega
    | succ i =>
      have := ih i a (by simpa using h)
      simp only [List.set_cons_succ, FoldSum.w2, List.getElem_cons_succ, List.length_cons, List.length_set, Nat.add_sub_add_right]; omega

theorem FoldSum.coprime : ∀ d < 256, 0 < d → Nat.gcd 65521 d = 1 := by decide +kernel
theorem FoldSum.dvd_zero {d k : Nat} (hd : d < 256) (hk : k < 65521) (h : 65521 ∣ d * k) : d = 0 ∨ k = 0 := by
  by_cases h0 : d = 0
  · exact Or.inl h0
  · right
    have : 65521 ∣ k := Nat.Coprime.dvd_of_dvd_mul_left (FoldSum.coprime d hd (by omega)) h
    exact Nat.eq_zero_of_dvd_of_lt this hk

theorem FoldSum.two_eq {x a y b n i j : Nat} (hx : x < 256) (ha : a < 256) (hy : y < 256) (hb : b < 256) (hn : n < 65521) (hi : i < n) (hj : j < n)
    {u1 u2 l1 l2 : Nat} (e1 : u1 + y + x = l1 + a + b) (e2 : u2 + (n - j) * y + (n - i) * x = l2 + (n - j) * b + (n - i) * a)
    (h1 : (1 + u1) % 65521 = (1 + l1) % 65521) (h2 : (n + u2) % 65521 = (n + l2) % 65521) : (x = a ∧ y = b) ∨ (i = j ∧ x + y = a + b) := by
  have hs : x + y = a + b := by omega
  by_cases hij : i = j
  · exact Or.inr ⟨hij, hs⟩
  left
  -- x - a = b - y =: d ; (n - i) d - (n - j) d = (j - i) d
  have key : ∀ (d k m : Nat), d < 256 → k < 65521 → m * d + k * d < 65521 * 65521 → (65521 ∣ d * k) → d = 0 ∨ k = 0 := fun d k m hd hk _ h => FoldSum.dvd_zero hd hk h
  by_cases hxa : a ≤ x
  · obtain ⟨d, rfl⟩ := Nat.le.dest hxa
    obtain rfl : b = y + d := by omega
    rw [Nat.mul_add, Nat.mul_add] at e2
    have h3 : (u2 + (n - i) * d) % 65521 = (u2 + (n - j) * d) % 65521 := by omega
    rcases Nat.lt_or_ge i j with hlt | hge
    · obtain ⟨k, hk⟩ := Nat.le.dest (Nat.le_of_lt hlt)
      have e5 : (n - i) * d = (n - j) * d + d * k := by
        rw [show n - i = (n - j) + k by omega, Nat.add_mul, Nat.mul_comm k d]
      have : 65521 ∣ d * k := by
        rw [e5] at h3
        generalize (n - j) * d = X at *
        generalize d * k = Y at *
        omega
      rcases FoldSum.dvd_zero (by omega) (by omega) this with rfl | rfl <;> omega
    · obtain ⟨k, hk⟩ := Nat.le.dest hge
      have e5 : (n - j) * d = (n - i) * d + d * k := by
        rw [show n - j = (n - i) + k by omega, Nat.add_mul, Nat.mul_comm k d]
      have : 65521 ∣ d * k := by
        rw [e5] at h3
        generalize (n - i) * d = X at *
        generalize d * k = Y at *
        omega
      rcases FoldSum.dvd_zero (by omega) (by omega) this with rfl | rfl <;> omega
  · obtain ⟨d, rfl⟩ := Nat.le.dest (Nat.le_of_lt (Nat.lt_of_not_le hxa))
    obtain rfl : y = b + d := by omega
    rw [Nat.mul_add, Nat.mul_add] at e2
    have h3 : (u2 + (n - j) * d) % 65521 = (u2 + (n - i) * d) % 65521 := by omega
    rcases Nat.lt_or_ge i j with hlt | hge
    · obtain ⟨k, hk⟩ := Nat.le.dest (Nat.le_of_lt hlt)
      have e5 : (n - i) * d = (n - j) * d + d * k := by
        rw [show n - i = (n - j) + k by omega, Nat.add_mul, Nat.mul_comm k d]
      have : 65521 ∣ d * k := by
        rw [e5] at h3
        generalize (n - j) * d = X at *
        generalize d * k = Y at *
        omega
      rcases FoldSum.dvd_zero (by omega) (by omega) this with rfl | rfl <;> omega
    · obtain ⟨k, hk⟩ := Nat.le.dest hge
      have e5 : (n - j) * d = (n - i) * d + d * k := by
        rw [show n - j = (n - i) + k by omega, Nat.add_mul, Nat.mul_comm k d]
      have : 65521 ∣ d * k := by
        rw [e5] at h3
        generalize (n - i) * d = X at *
        generalize d * k = Y at *
        omega
      rcases FoldSum.dvd_zero (by omega) (by omega) this with rfl | rfl <;> omega

/-- FLETCHER: whatever one or two bytes are other is told. -/
theorem FoldSum.tells (l : List UInt8) (i j : Nat) (a b : UInt8) (hl : l.length ≤ 4096) (hi : i < l.length) (hj : j < l.length)
    (h : FoldSum.ab ((l.set i a).set j b) = FoldSum.ab l) : (l.set i a).set j b = l := by
  have hj' : j < (l.set i a).length := by simpa using hj
  have s1 := FoldSum.w1_set l i a hi
  have s2 := FoldSum.w1_set (l.set i a) j b hj'
  have t1 := FoldSum.w2_set l i a hi
  have t2 := FoldSum.w2_set (l.set i a) j b hj'
  rw [FoldSum.ab_w, FoldSum.ab_w, Prod.mk.injEq] at h
  simp only [List.length_set] at h t2
  obtain ⟨h1, h2⟩ := h
  have hx := l[i].toNat_lt
  have hy := ((l.set i a)[j]).toNat_lt
  have hA := a.toNat_lt
  have hB := b.toNat_lt
  rcases FoldSum.two_eq hx hA hy hB (by omega) hi hj (by omega) (by omega) h1 h2 with ⟨e1, e2⟩ | ⟨rfl, e⟩
  · have ea : l[i] = a := UInt8.toNat_inj.1 e1
    have eb : (l.set i a)[j] = b := UInt8.toNat_inj.1 e2
    have e3 : l.set i a = l := by rw [← ea]; exact List.set_getElem_self hi
    simp only [e3] at eb ⊢
    rw [← eb]; exact List.set_getElem_self hj
  · have e1 : (l.set i a)[i] = a := by simp
    rw [e1] at e
    have eb : l[i] = b := UInt8.toNat_inj.1 (by omega)
    rw [List.set_set, ← eb]; exact List.set_getElem_self hi

/-- the four bytes behind a text -/
def FoldSum.tail (l : List UInt8) : List UInt8 :=
  let n := (FoldSum.sum l).toNat
  [UInt8.ofNat (n / 16777216), UInt8.ofNat (n / 65536), UInt8.ofNat (n / 256), UInt8.ofNat n]
theorem FoldSum.sum_lt (l : List UInt8) : 0 ≤ FoldSum.sum l ∧ FoldSum.sum l < 4294967296 := by
  have := FoldSum.ab_lt l
  unfold FoldSum.sum; omega
theorem FoldSum.sum_inj {l m : List UInt8} (h : FoldSum.sum l = FoldSum.sum m) : FoldSum.ab l = FoldSum.ab m := by
  have h1 := FoldSum.ab_lt l
  have h2 := FoldSum.ab_lt m
  unfold FoldSum.sum at h
  apply Prod.ext <;> omega
theorem FoldSum.tail_inj {l m : List UInt8} (h : FoldSum.tail l = FoldSum.tail m) : FoldSum.sum l = FoldSum.sum m := by
  have h1 := FoldSum.sum_lt l
  have h2 := FoldSum.sum_lt m
  simp only [FoldSum.tail, List.cons.injEq, and_true] at h
  obtain ⟨a1, a2, a3, a4⟩ := h
  have f : ∀ x y : Nat, UInt8.ofNat x = UInt8.ofNat y → x % 256 = y % 256 := by
    intro x y h
    have := congrArg UInt8.toNat h
    simpa [UInt8.toNat_ofNat'] using this
  have b1 := f _ _ a1
  have b2 := f _ _ a2
  have b3 := f _ _ a3
  have b4 := f _ _ a4
  omega
end Go.Proofs.YtpeaefeoogcepaaDoor
