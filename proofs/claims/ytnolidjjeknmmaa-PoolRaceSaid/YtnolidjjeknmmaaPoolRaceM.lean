/- SLEATOR, TARJAN over plain lists: Lru against any schedule with fewer places. -/
import Derived.Test.YtnolidjjeknmmaaPoolStk
namespace Go.Proofs.Ytnolidjjeknmmaa

/-- How many of R are not in O. -/
def PoolM.out (O R : List Int) : Nat := R.countP fun x => decide (x ∉ O)
theorem PoolM.out_ge (O : List Int) : ∀ (R : List Int), R.Nodup → R.length ≤ PoolM.out O R + O.length := by
  intro R hR
  unfold PoolM.out
  have h := List.length_eq_countP_add_countP (fun x => decide (x ∉ O)) (l := R)
  have h2 : R.countP (fun x => ¬ decide (x ∉ O) = true) ≤ O.length := by
    rw [List.countP_eq_length_filter]
    refine PoolM.len_le (hR.sublist List.filter_sublist) (fun x hx => ?_)
    rw [List.mem_filter] at hx
    simpa using hx.2
  omega
theorem PoolM.out_snoc (O R : List Int) (x : Int) : PoolM.out O (R ++ [x]) = PoolM.out O R + if x ∈ O then 0 else 1 := by
  unfold PoolM.out
  rw [List.countP_append]
  by_cases h : x ∈ O <;> simp [h]

/-- Where a race stands: k stretches of a misses each are over, c misses since. -/
structure PoolM.Race (a b : Nat) (K O : List Int) (ML MO k c e : Nat) (R O1 A B : List Int) (M1 : Nat) : Prop where
  ml : ML = k * a + c
  lt : c < a
  m1 : k * (a - b + 1) ≤ M1
  mo : M1 + PoolM.out O1 R ≤ MO
  e1 : e ≤ 1
  e0 : e = 0 → O1 = []
  o1 : O1.length ≤ b
  rl : c + e ≤ R.length
  nd : R.Nodup
  sub : ∀ x, x ∈ O → x ∈ O1 ∨ x ∈ R
  eq : K = A ++ B
  ar : ∀ x, x ∈ A → x ∉ R
  br : ∀ x, x ∈ B → x ∈ R
  all : (∀ x, x ∈ R → x ∈ B) ∨ (A = [] ∧ K.length = a ∧ a + e ≤ R.length)
theorem PoolM.race_end {a b : Nat} {K O : List Int} {ML MO k c e : Nat} {R O1 A B : List Int} {M1 : Nat} (hb : 1 ≤ b) (hab : b ≤ a) (h : PoolM.Race a b K O ML MO k c e R O1 A B M1) :
    ((ML : Int) - (b : Int)) * ((a : Int) - (b : Int) + 1) ≤ (a : Int) * (MO : Int) := by
  have h1 := PoolM.out_ge O1 R h.nd
  have h2 := h.rl; have h3 := h.mo; have h4 := h.m1; have h5 := h.o1; have h6 := h.e1
  obtain ⟨m, hm⟩ : ∃ m, a = b + m := ⟨a - b, by omega⟩
  have hgain : c + 1 ≤ PoolM.out O1 R + b := by
    by_cases he : e = 0
    · have := h.e0 he
      rw [this] at h1 ⊢
      simp only [List.length_nil] at h1
      omega
    · omega
  have e1 : ((a : Int) - (b : Int) + 1) = ((m + 1 : Nat) : Int) := by omega
  have e2 : a - b + 1 = m + 1 := by omega
  rw [e1, h.ml]
  rw [e2] at h4
  generalize PoolM.out O1 R = g at *
  have hk : a * (k * (m + 1)) ≤ a * M1 := Nat.mul_le_mul_left _ h4
  have hMO : a * M1 + a * g ≤ a * MO := by rw [← Nat.mul_add]; exact Nat.mul_le_mul_left _ h3
  have hka : k * a * (m + 1) = a * (k * (m + 1)) := by rw [Nat.mul_comm k a, Nat.mul_assoc]
  by_cases hcb : c ≤ b
  · -- (k a + c - b) (m+1) <= k a (m+1)
    have h9 : ((k * a + c : Nat) : Int) - (b : Int) ≤ ((k * a : Nat) : Int) := by omega
    have h10 := Int.mul_le_mul_of_nonneg_right h9 (show (0 : Int) ≤ ((m + 1 : Nat) : Int) by omega)
    rw [← Int.natCast_mul, hka] at h10
    have h11 : ((a * (k * (m + 1)) : Nat) : Int) ≤ ((a * MO : Nat) : Int) := by omega
    rw [Int.natCast_mul a MO] at h11
    exact Int.le_trans h10 h11
  · have h9 : ((k * a + c : Nat) : Int) - (b : Int) = ((k * a + (c - b) : Nat) : Int) := by omega
    rw [h9, ← Int.natCast_mul, ← Int.natCast_mul]
    have h10 : (k * a + (c - b)) * (m + 1) = k * a * (m + 1) + (c - b) * (m + 1) := Nat.add_mul _ _ _
    have h11 : (c - b) * (m + 1) ≤ g * a := Nat.mul_le_mul (by omega) (by omega)
    rw [Nat.mul_comm g a] at h11
    have h12 : (k * a + (c - b)) * (m + 1) ≤ a * MO := by omega
    omega
/-- R, with x if it is not there. -/
def PoolM.addR (R : List Int) (x : Int) : List Int := if x ∈ R then R else R ++ [x]
theorem PoolM.addR_mem (R : List Int) (x y : Int) : y ∈ PoolM.addR R x ↔ y ∈ R ∨ y = x := by
  unfold PoolM.addR
  split
  · rename_i h
    exact ⟨Or.inl, fun h2 => h2.elim id (fun e => e ▸ h)⟩
  · simp
theorem PoolM.addR_nodup {R : List Int} (h : R.Nodup) (x : Int) : (PoolM.addR R x).Nodup := by
  unfold PoolM.addR
  split
  · exact h
  · rename_i hx
    exact PoolM.snoc_nodup h hx
theorem PoolM.addR_len (R : List Int) (x : Int) : R.length ≤ (PoolM.addR R x).length := by
  unfold PoolM.addR
  split
  · exact Nat.le_refl _
  · simp

/-- The list of Lru, turned once. -/
theorem PoolM.race_list {a : Nat} (h1 : 1 ≤ a) {K A B R : List Int} {e : Nat} (he : e ≤ 1) (hK : K.Nodup) (hle : K.length ≤ a) (_hR : R.Nodup) (eq : K = A ++ B) (ar : ∀ x, x ∈ A → x ∉ R) (br : ∀ x, x ∈ B → x ∈ R)
    (all : (∀ x, x ∈ R → x ∈ B) ∨ (A = [] ∧ K.length = a ∧ a + e ≤ R.length)) (n : Nat) (x : Int) :
    ∃ A' B', PoolM.step PoolM.oldest PoolM.touch a K n x = A' ++ B' ∧ (∀ y, y ∈ A' → y ∉ PoolM.addR R x) ∧ (∀ y, y ∈ B' → y ∈ PoolM.addR R x) ∧
      ((∀ y, y ∈ PoolM.addR R x → y ∈ B') ∨ (A' = [] ∧ (PoolM.step PoolM.oldest PoolM.touch a K n x).length = a ∧ a + e ≤ (PoolM.addR R x).length)) ∧
      (x ∉ K → R.length + 1 ≤ (PoolM.addR R x).length ∨ a + e ≤ (PoolM.addR R x).length) := by
  subst eq
  by_cases hx : x ∈ A ++ B
  · -- it is there
    have hstep : PoolM.step PoolM.oldest PoolM.touch a (A ++ B) n x = PoolM.touch (A ++ B) x := by unfold PoolM.step; rw [if_pos hx]
    rw [hstep]
    by_cases hA : x ∈ A
    · have hxR : x ∉ R := ar x hA
      have hadd : PoolM.addR R x = R ++ [x] := by unfold PoolM.addR; rw [if_neg hxR]
      rw [PoolM.touch_left hA, hadd]
      have hAn : A.Nodup := (List.nodup_append.1 hK).1
      refine ⟨_, _, rfl, fun y hy => ?_, fun y hy => ?_, Or.inl (fun y hy => ?_), fun h => absurd hx h⟩
      · have hyA := List.mem_of_mem_eraseIdx hy
        have hlt : A.findIdx (fun z => x == z) < A.length := List.findIdx_lt_length_of_exists ⟨x, hA, by simp⟩
        have hne : y ≠ x := by
          rintro rfl
          have hg : A[A.findIdx (fun z => y == z)] = y := by
            have := List.findIdx_getElem (w := hlt)
            simp at this; exact this.symm
          obtain ⟨i, hi, hie, hg2⟩ := (List.mem_eraseIdx_iff_getElem).1 hy
          rw [List.nodup_iff_pairwise_ne, List.pairwise_iff_getElem] at hAn
          rcases Nat.lt_or_gt_of_ne hie with h | h
          · exact hAn i _ hi hlt h (by rw [hg2, hg])
          · exact hAn _ i hlt hi h (by rw [hg2, hg])
        simp [ar y hyA, hne]
      · rcases List.mem_append.1 hy with h | h
        · exact List.mem_append_left _ (br y h)
        · exact List.mem_append_right _ h
      · rcases all with h | ⟨h, _⟩
        · rcases List.mem_append.1 hy with h2 | h2
          · exact List.mem_append_left _ (h y h2)
          · exact List.mem_append_right _ h2
        · rw [h] at hA; simp at hA
    · have hB : x ∈ B := (List.mem_append.1 hx).resolve_left hA
      have hadd : PoolM.addR R x = R := by unfold PoolM.addR; rw [if_pos (br x hB)]
      have hp := PoolM.touch_perm B x hB
      rw [PoolM.touch_right hA, hadd]
      refine ⟨_, _, rfl, ar, fun y hy => br y (hp.mem_iff.1 hy), ?_, fun h => absurd hx h⟩
      rcases all with h | ⟨h, h2, h3⟩
      · exact Or.inl (fun y hy => hp.mem_iff.2 (h y hy))
      · refine Or.inr ⟨h, ?_, h3⟩
        rw [List.length_append, hp.length_eq, ← List.length_append]; exact h2
  · have hstep : PoolM.step PoolM.oldest PoolM.touch a (A ++ B) n x = (if (A ++ B).length = a then (A ++ B).eraseIdx 0 else A ++ B) ++ [x] := by unfold PoolM.step; rw [if_neg hx]; rfl
    have hxA : x ∉ A := fun h => hx (List.mem_append_left _ h)
    have hxB : x ∉ B := fun h => hx (List.mem_append_right _ h)
    have hBn : B.Nodup := (List.nodup_append.1 hK).2.1
    have hmx : ∀ y, y ∈ [x] → y ∈ PoolM.addR R x := fun y hy => (PoolM.addR_mem R x y).2 (Or.inr (by simpa using hy))
    have hmb : ∀ y, y ∈ B → y ∈ PoolM.addR R x := fun y hy => (PoolM.addR_mem R x y).2 (Or.inl (br y hy))
    have hma : ∀ y, y ∈ A → y ∉ PoolM.addR R x := fun y hy h => by
      rcases (PoolM.addR_mem R x y).1 h with h2 | h2
      · exact ar y hy h2
      · subst h2; exact hxA hy
    have hgrow : R.length + 1 ≤ (PoolM.addR R x).length ∨ a + e ≤ (PoolM.addR R x).length := by
      by_cases hxR : x ∈ R
      · right
        rcases all with h | ⟨_, _, h3⟩
        · exact absurd (h x hxR) hxB
        · exact Nat.le_trans h3 (PoolM.addR_len R x)
      · left
        unfold PoolM.addR; rw [if_neg hxR]; simp
    rw [hstep]
    by_cases hfull : (A ++ B).length = a
    · rw [if_pos hfull, List.eraseIdx_zero]
      cases A with
      | cons z A' =>
        refine ⟨A', B ++ [x], by simp, fun y hy => hma y (by simp [hy]), fun y hy => ?_, Or.inl (fun y hy => ?_), fun _ => hgrow⟩
        · rcases List.mem_append.1 hy with h | h
          · exact hmb y h
          · exact hmx y h
        · rcases all with h | ⟨h, _⟩
          · rcases (PoolM.addR_mem R x y).1 hy with h2 | h2
            · exact List.mem_append_left _ (h y h2)
            · exact List.mem_append_right _ (by simpa using h2)
          · cases h
      | nil =>
        rw [List.nil_append] at hfull ⊢
        have hBl : B.tail.length + 1 = B.length := by rw [List.length_tail]; omega
        refine ⟨[], B.tail ++ [x], by simp, fun y hy => by simp at hy, fun y hy => ?_, Or.inr ⟨rfl, ?_, ?_⟩, fun _ => hgrow⟩
        · rcases List.mem_append.1 hy with h | h
          · exact hmb y (List.mem_of_mem_tail h)
          · exact hmx y h
        · rw [List.length_append]; simp only [List.length_cons, List.length_nil]; omega
        · have hRB : B.length ≤ R.length := PoolM.len_le hBn br
          rcases all with h | ⟨_, _, h3⟩
          · have hxR : x ∉ R := fun h2 => hxB (h x h2)
            unfold PoolM.addR; rw [if_neg hxR]
            simp only [List.length_append, List.length_cons, List.length_nil]; omega
          · exact Nat.le_trans h3 (PoolM.addR_len R x)
    · rw [if_neg hfull]
      refine ⟨A, B ++ [x], by simp, hma, fun y hy => ?_, Or.inl (fun y hy => ?_), fun _ => hgrow⟩
      · rcases List.mem_append.1 hy with h | h
        · exact hmb y h
        · exact hmx y h
      · rcases all with h | ⟨h, h2, _⟩
        · rcases (PoolM.addR_mem R x y).1 hy with h2 | h2
          · exact List.mem_append_left _ (h y h2)
          · exact List.mem_append_right _ (by simpa using h2)
        · exact absurd h2 hfull

/-- One step of a race. -/
theorem PoolM.race_step {a b : Nat} (hb : 1 ≤ b) (hab : b ≤ a) {K O O' : List Int} {ML MO k c e : Nat} {R O1 A B : List Int} {M1 : Nat} (h : PoolM.Race a b K O ML MO k c e R O1 A B M1) (n : Nat) (x : Int)
    (hK : K.Nodup) (hle : K.length ≤ a) (hK' : (PoolM.step PoolM.oldest PoolM.touch a K n x).Nodup) (hlast : ∃ T, PoolM.step PoolM.oldest PoolM.touch a K n x = T ++ [x]) (hO : ∀ y, y ∈ O' → y ∈ O ∨ y = x) (hx : x ∈ O') (hOl : O'.length ≤ b) :
    ∃ k c e R O1 A B M1, PoolM.Race a b (PoolM.step PoolM.oldest PoolM.touch a K n x) O' (ML + if x ∈ K then 0 else 1) (MO + if x ∈ O then 0 else 1) k c e R O1 A B M1 := by
  obtain ⟨A', B', eq', ar', br', all', hgrow⟩ := PoolM.race_list (by omega) h.e1 hK hle h.nd h.eq h.ar h.br h.all n x
  have hmo' : M1 + PoolM.out O1 (PoolM.addR R x) ≤ MO + if x ∈ O then 0 else 1 := by
    have hmo := h.mo
    by_cases hxR : x ∈ R
    · have hadd : PoolM.addR R x = R := by unfold PoolM.addR; rw [if_pos hxR]
      rw [hadd]; omega
    · have hadd : PoolM.addR R x = R ++ [x] := by unfold PoolM.addR; rw [if_neg hxR]
      rw [hadd, PoolM.out_snoc]
      by_cases hx1 : x ∈ O1
      · rw [if_pos hx1]; omega
      · rw [if_neg hx1]
        have hxO : x ∉ O := fun h2 => by
          rcases h.sub x h2 with h3 | h3
          · exact hx1 h3
          · exact hxR h3
        rw [if_neg hxO]; omega
  have hnd' := PoolM.addR_nodup h.nd x
  have hsub' : ∀ y, y ∈ O' → y ∈ O1 ∨ y ∈ PoolM.addR R x := fun y hy => by
    rcases hO y hy with h2 | h2
    · rcases h.sub y h2 with h3 | h3
      · exact Or.inl h3
      · exact Or.inr ((PoolM.addR_mem R x y).2 (Or.inl h3))
    · exact Or.inr ((PoolM.addR_mem R x y).2 (Or.inr h2))
  have hlen := PoolM.addR_len R x
  have hr := h.rl
  have hc := h.lt
  by_cases hxK : x ∈ K
  · rw [if_pos hxK]
    exact ⟨k, c, e, PoolM.addR R x, O1, A', B', M1, h.ml, h.lt, h.m1, hmo', h.e1, h.e0, h.o1, by omega, hnd', hsub', eq', ar', br', all'⟩
  · rw [if_neg hxK]
    have hg := hgrow hxK
    by_cases hca : c + 1 < a
    · exact ⟨k, c + 1, e, PoolM.addR R x, O1, A', B', M1, by rw [h.ml]; omega, hca, h.m1, hmo', h.e1, h.e0, h.o1, by omega, hnd', hsub', eq', ar', br', all'⟩
    · -- a stretch is over
      obtain ⟨T, hT⟩ := hlast
      have hge := PoolM.out_ge O1 (PoolM.addR R x) hnd'
      have hRa : a + e ≤ (PoolM.addR R x).length := by omega
      have hm : a - b + 1 ≤ PoolM.out O1 (PoolM.addR R x) := by
        by_cases he : e = 0
        · have h0 := h.e0 he
          rw [h0] at hge ⊢
          simp only [List.length_nil] at hge
          omega
        · have := h.o1; have := h.e1; omega
      have hm1 := h.m1
      refine ⟨k + 1, 0, 1, [x], O', T, [x], MO + (if x ∈ O then 0 else 1), ?_, by omega, ?_, ?_, Nat.le_refl _, fun h => by omega, hOl, by simp, by simp, fun y hy => Or.inl hy, hT, fun y hy h2 => ?_, fun y hy => hy, Or.inl (fun y hy => hy)⟩
      · rw [h.ml, Nat.add_mul]; omega
      · rw [Nat.add_mul]; omega
      · unfold PoolM.out; simp [hx]
      · rw [hT, List.nodup_append] at hK'
        exact hK'.2.2 y hy x (by simp) (by simpa using h2)
theorem PoolM.lru_last {a : Nat} (K : List Int) (n : Nat) (x : Int) : ∃ T, PoolM.step PoolM.oldest PoolM.touch a K n x = T ++ [x] := by
  unfold PoolM.step
  split
  · exact ⟨_, rfl⟩
  · exact ⟨_, rfl⟩
theorem PoolM.race {a b : Nat} (hb : 1 ≤ b) (hab : b ≤ a) (refs : List Int) (X : Nat → List Int) (hX : PoolM.Sched b refs X) : ∀ n, n ≤ refs.length →
    ∃ ML MO k c e R O1 A B M1, ML + PoolM.cnt refs (PoolM.kept PoolM.oldest PoolM.touch a refs) n = n ∧ MO + PoolM.cnt refs X n = n ∧ PoolM.Race a b (PoolM.kept PoolM.oldest PoolM.touch a refs n) (X n) ML MO k c e R O1 A B M1
  | 0, _ => ⟨0, 0, 0, 0, 0, [], [], [], [], 0, by simp [PoolM.cnt], by simp [PoolM.cnt], by
    refine ⟨by omega, by omega, by omega, by simp [PoolM.out], by omega, fun _ => rfl, by simp, by simp, by simp, fun x hx => ?_, rfl, fun x h => by simp at h, fun x h => by simp at h, Or.inl (fun x h => h)⟩
    rw [hX.zero] at hx; simp at hx⟩
  | n + 1, hn => by
    obtain ⟨ML, MO, k, c, e, R, O1, A, B, M1, h1, h2, hr⟩ := PoolM.race hb hab refs X hX n (by omega)
    have hki := (PoolM.kept_inv PoolM.rule_lru a refs n (by omega)).nodup
    have hki' := (PoolM.kept_inv PoolM.rule_lru a refs (n + 1) hn).nodup
    have hkl := PoolM.kept_len PoolM.rule_lru a (by omega) refs n
    have pa : PoolM.kept PoolM.oldest PoolM.touch a refs (n + 1) = PoolM.step PoolM.oldest PoolM.touch a (PoolM.kept PoolM.oldest PoolM.touch a refs n) n (refs.getD n 0) := rfl
    rw [pa] at hki'
    obtain ⟨k', c', e', R', O1', A', B', M1', hr'⟩ := PoolM.race_step hb hab hr n (refs.getD n 0) hki hkl hki' (PoolM.lru_last _ _ _) (hX.step n (by omega)) (hX.has n (by omega)) (hX.le (n + 1) hn)
    refine ⟨_, _, k', c', e', R', O1', A', B', M1', ?_, ?_, by rw [pa]; exact hr'⟩
    · rw [PoolM.cnt_succ]
      split <;> omega
    · rw [PoolM.cnt_succ]
      split <;> omega
theorem PoolM.race_all {a b : Nat} (hb : 1 ≤ b) (hab : b ≤ a) (refs : List Int) (X : Nat → List Int) (hX : PoolM.Sched b refs X) :
    ((refs.length : Int) - (PoolM.cnt refs (PoolM.kept PoolM.oldest PoolM.touch a refs) refs.length : Nat) - (b : Int)) * ((a : Int) - (b : Int) + 1) ≤ (a : Int) * ((refs.length : Int) - (PoolM.cnt refs X refs.length : Nat)) := by
  obtain ⟨ML, MO, k, c, e, R, O1, A, B, M1, h1, h2, hr⟩ := PoolM.race hb hab refs X hX refs.length (Nat.le_refl _)
  have h := PoolM.race_end hb hab hr
  have e1 : (refs.length : Int) - (PoolM.cnt refs (PoolM.kept PoolM.oldest PoolM.touch a refs) refs.length : Nat) = (ML : Int) := by omega
  have e2 : (refs.length : Int) - (PoolM.cnt refs X refs.length : Nat) = (MO : Int) := by omega
  rw [e1, e2]
  exact h
end Go.Proofs.Ytnolidjjeknmmaa
