/- buddy, in plain Lean: which blocks are free; every place lies in just one block; no two halves of one block are free. -/
import Derived.Test.YtfmgncfikaefhaaMem
namespace Go.Proofs.Ytfmgncfikaefhaa
open Go.RowKit Go.Lib

structure BkM where
  at_ : Int
  ord : Int
deriving DecidableEq, Inhabited

theorem BudM.pow_pos (n : Nat) : (0 : Int) < 2 ^ n := Int.pow_pos (by omega)
theorem BudM.pow_succ (n : Nat) : (2 : Int) ^ (n + 1) = 2 * 2 ^ n := by rw [Int.pow_succ]; omega
theorem BudM.pow_le {n m : Nat} (h : n ≤ m) : (2 : Int) ^ n ≤ 2 ^ m := by
  induction h with
  | refl => exact Int.le_refl _
  | step _ ih => rename_i m _; rw [BudM.pow_succ]; have := BudM.pow_pos m; omega
def BudM.bad (n e : Int) (x : BkM) : Bool :=
  decide (x.ord < 0) || (decide (n < x.ord) || (decide (x.at_ < e) || (decide (x.at_.tmod (2 ^ x.ord.toNat) ≠ 0) || decide ((2 : Int) ^ n.toNat - 2 ^ x.ord.toNat < x.at_))))
def BudM.go (n : Int) : Int → List BkM → Int
  | _, [] => 0
  | e, x :: r => if BudM.bad n e x = true then 4 else BudM.go n (x.at_ + 2 ^ x.ord.toNat) r
def BudM.check (n : Int) (T : List BkM) : Int := if n < 0 ∨ 10 < n then 1 else BudM.go n 0 T
/-- A block within 2^n places, at a place that its width divides. -/
def BudM.Fine (n : Nat) (x : BkM) : Prop := 0 ≤ x.ord ∧ x.ord ≤ n ∧ 0 ≤ x.at_ ∧ (∃ q : Int, x.at_ = q * 2 ^ x.ord.toNat) ∧ x.at_ + 2 ^ x.ord.toNat ≤ 2 ^ n
theorem BudM.bad_fine {n : Nat} {e : Int} {x : BkM} (he : 0 ≤ e) (h : BudM.bad n e x = false) : BudM.Fine n x ∧ e ≤ x.at_ := by
  unfold BudM.bad at h
  simp only [Bool.or_eq_false_iff, decide_eq_false_iff_not] at h
  obtain ⟨h1, h2, h3, h4, h5⟩ := h
  have e1 : ((n : Int)).toNat = n := by omega
  rw [e1] at h5
  refine ⟨⟨by omega, by omega, by omega, ⟨x.at_.tdiv (2 ^ x.ord.toNat), ?_⟩, by omega⟩, by omega⟩
  have h4 : x.at_.tmod (2 ^ x.ord.toNat) = 0 := Decidable.of_not_not h4
  have := Int.tmod_add_tdiv_mul x.at_ (2 ^ x.ord.toNat)
  omega
theorem BudM.go_ok {n : Nat} : ∀ {T : List BkM} {e : Int}, 0 ≤ e → BudM.go n e T = 0 → (∀ x ∈ T, BudM.Fine n x ∧ e ≤ x.at_) ∧ T.Pairwise (fun x y => x.at_ + 2 ^ x.ord.toNat ≤ y.at_)
  | [], _, _, _ => ⟨by simp, List.Pairwise.nil⟩
  | x :: r, e, he, h => by
    unfold BudM.go at h
    split at h
    · omega
    · rename_i hb
      have hb : BudM.bad n e x = false := by simpa using hb
      obtain ⟨hf, hx⟩ := BudM.bad_fine he hb
      have hp := BudM.pow_pos x.ord.toNat
      obtain ⟨h1, h2⟩ := BudM.go_ok (T := r) (e := x.at_ + 2 ^ x.ord.toNat) (by omega) h
      refine ⟨fun y hy => ?_, List.pairwise_cons.2 ⟨fun y hy => (h1 y hy).2, h2⟩⟩
      rcases List.mem_cons.1 hy with rfl | hy
      · exact ⟨hf, hx⟩
      · exact ⟨(h1 y hy).1, by have := (h1 y hy).2; omega⟩
theorem BudM.sorted_len {m : Nat} : ∀ (T : List BkM) (e : Int), (∀ x ∈ T, BudM.Fine m x ∧ e ≤ x.at_) → T.Pairwise (fun x y => x.at_ + 2 ^ x.ord.toNat ≤ y.at_) → e ≤ 2 ^ m → (T.length : Int) ≤ 2 ^ m - e
  | [], e, _, _, h => by simp; omega
  | x :: r, e, h1, h2, h3 => by
    obtain ⟨hx, hr⟩ := List.pairwise_cons.1 h2
    obtain ⟨⟨_, _, _, _, h5⟩, h6⟩ := h1 x List.mem_cons_self
    have hp := BudM.pow_pos x.ord.toNat
    have ih := BudM.sorted_len r (x.at_ + 2 ^ x.ord.toNat) (fun y hy => ⟨(h1 y (List.mem_cons_of_mem _ hy)).1, hx y hy⟩) hr h5
    rw [List.length_cons]; omega
theorem BudM.check_ok {n : Int} {T : List BkM} (h : BudM.check n T = 0) : ∃ m : Nat, n = m ∧ m ≤ 10 ∧ (∀ x ∈ T, BudM.Fine m x) ∧ T.Pairwise (fun x y => x.at_ + 2 ^ x.ord.toNat ≤ y.at_) := by
  unfold BudM.check at h
  split at h
  · omega
  · obtain ⟨m, rfl⟩ := Int.eq_ofNat_of_zero_le (show 0 ≤ n by omega)
    obtain ⟨h1, h2⟩ := BudM.go_ok (n := m) (Int.le_refl 0) h
    exact ⟨m, rfl, by omega, fun x hx => (h1 x hx).1, h2⟩
/-- Those that touch the 2^n places from a on. -/
def BudM.meets (a : Int) (n : Nat) (x : BkM) : Bool := decide (x.at_ < a + 2 ^ n) && decide (a < x.at_ + 2 ^ x.ord.toNat)
def BudM.ins (T : List BkM) (a : Int) (n : Nat) : List BkM := T.filter (BudM.meets a n)
def BudM.free : Nat → List BkM → Int → List BkM
  | 0, T, a => match BudM.ins T a 0 with
    | [] => [⟨a, 0⟩]
    | _ :: _ => []
  | n + 1, T, a => match BudM.ins T a (n + 1) with
    | [] => [⟨a, (n + 1 : Nat)⟩]
    | x :: r => if ((n + 1 : Nat) : Int) ≤ x.ord then [] else BudM.free n (x :: r) a ++ BudM.free n (x :: r) (a + 2 ^ n)
def BudM.has (p : Int) (x : BkM) : Bool := decide (x.at_ ≤ p) && decide (p < x.at_ + 2 ^ x.ord.toNat)
theorem BudM.has_iff (p : Int) (x : BkM) : BudM.has p x = true ↔ x.at_ ≤ p ∧ p < x.at_ + 2 ^ x.ord.toNat := by simp [BudM.has]
theorem BudM.meets_iff (a : Int) (n : Nat) (x : BkM) : BudM.meets a n x = true ↔ x.at_ < a + 2 ^ n ∧ a < x.at_ + 2 ^ x.ord.toNat := by simp [BudM.meets]
def BudM.cnt (l : List BkM) (p : Int) : Nat := l.countP (BudM.has p)
theorem BudM.free_len : ∀ (n : Nat) (T : List BkM) (a : Int), (BudM.free n T a).length ≤ 2 ^ n
  | 0, T, a => by unfold BudM.free; split <;> simp
  | n + 1, T, a => by
    unfold BudM.free
    have hp : 2 ^ (n + 1) = 2 * 2 ^ n := by rw [Nat.pow_succ]; omega
    have hp2 : 0 < 2 ^ n := Nat.pow_pos (by omega)
    split
    · simp; omega
    · split
      · simp
      · rename_i x r _ _
        have h1 := BudM.free_len n (x :: r) a
        have h2 := BudM.free_len n (x :: r) (a + 2 ^ n)
        rw [List.length_append]; omega
/-- A greater block at a place that its width divides has all of a smaller one that it touches. -/
theorem BudM.within {a q b r : Int} {n m : Nat} (hnm : n ≤ m) (ha : a = q * 2 ^ n) (hb : b = r * 2 ^ m) (h1 : a < b + 2 ^ m) (h2 : b < a + 2 ^ n) : b ≤ a ∧ a + 2 ^ n ≤ b + 2 ^ m := by
  obtain ⟨d, rfl⟩ : ∃ d, m = n + d := ⟨m - n, by omega⟩
  have hp := BudM.pow_pos n
  have hd := BudM.pow_pos d
  rw [Int.pow_add] at hb h1 ⊢
  have e1 : b = (r * 2 ^ d) * 2 ^ n := by rw [hb]; rw [Int.mul_assoc]; congr 1; exact Int.mul_comm _ _
  have e2 : b + 2 ^ n * 2 ^ d = (r * 2 ^ d + 2 ^ d) * 2 ^ n := by rw [e1, Int.add_mul]; congr 1; exact Int.mul_comm _ _
  rw [e2] at h1 ⊢
  rw [e1] at h2 ⊢
  rw [ha] at h1 h2 ⊢
  have e3 : q * 2 ^ n + 2 ^ n = (q + 1) * 2 ^ n := by rw [Int.add_mul]; omega
  rw [e3] at h2 ⊢
  have k1 := Int.lt_of_mul_lt_mul_right h1 (Int.le_of_lt hp)
  have k2 := Int.lt_of_mul_lt_mul_right h2 (Int.le_of_lt hp)
  exact ⟨Int.mul_le_mul_of_nonneg_right (by omega) (Int.le_of_lt hp), Int.mul_le_mul_of_nonneg_right (by omega) (Int.le_of_lt hp)⟩
/-- Aligned blocks alone. -/
def BudM.Al (x : BkM) : Prop := 0 ≤ x.ord ∧ ∃ q : Int, x.at_ = q * 2 ^ x.ord.toNat
theorem BudM.mem_ins {T : List BkM} {a : Int} {n : Nat} {x : BkM} : x ∈ BudM.ins T a n ↔ x ∈ T ∧ x.at_ < a + 2 ^ n ∧ a < x.at_ + 2 ^ x.ord.toNat := by
  unfold BudM.ins; rw [List.mem_filter, BudM.meets_iff]
theorem BudM.cover : ∀ (n : Nat) (T : List BkM) (a : Int), (∀ x ∈ T, BudM.Al x) → (∃ q : Int, a = q * 2 ^ n) → ∀ p, BudM.cnt (BudM.free n T a) p = if (a ≤ p ∧ p < a + 2 ^ n) ∧ ∀ x ∈ T, ¬ (x.at_ ≤ p ∧ p < x.at_ + 2 ^ x.ord.toNat) then 1 else 0 := by
  have one : ∀ (n : Nat) (T : List BkM) (a : Int), BudM.ins T a n = [] → ∀ p, BudM.cnt [⟨a, n⟩] p = if (a ≤ p ∧ p < a + 2 ^ n) ∧ ∀ x ∈ T, ¬ (x.at_ ≤ p ∧ p < x.at_ + 2 ^ x.ord.toNat) then 1 else 0 := by
    intro n T a h p
    unfold BudM.cnt
    rw [List.countP_singleton]
    by_cases hp : a ≤ p ∧ p < a + 2 ^ n
    · have e1 : BudM.has p ⟨a, n⟩ = true := (BudM.has_iff _ _).2 hp
      rw [if_pos e1, if_pos]
      refine ⟨hp, fun x hx hxp => ?_⟩
      have : x ∈ BudM.ins T a n := BudM.mem_ins.2 ⟨hx, by omega, by omega⟩
      rw [h] at this
      simp at this
    · rw [if_neg (fun h => hp ((BudM.has_iff _ _).1 h)), if_neg (fun h => hp h.1)]
  have none : ∀ (n : Nat) (T : List BkM) (a : Int) (x : BkM) (r : List BkM), (∀ x ∈ T, BudM.Al x) → (∃ q : Int, a = q * 2 ^ n) → BudM.ins T a n = x :: r → (n : Int) ≤ x.ord → ∀ p, BudM.cnt [] p = if (a ≤ p ∧ p < a + 2 ^ n) ∧ ∀ x ∈ T, ¬ (x.at_ ≤ p ∧ p < x.at_ + 2 ^ x.ord.toNat) then 1 else 0 := by
    intro n T a x r hT ha h hn p
    rw [if_neg]
    · rfl
    · rintro ⟨hp, hno⟩
      have hx : x ∈ BudM.ins T a n := by rw [h]; exact List.mem_cons_self
      obtain ⟨hxT, h1, h2⟩ := BudM.mem_ins.1 hx
      obtain ⟨q, hq⟩ := ha
      obtain ⟨_, r', hr⟩ := hT x hxT
      obtain ⟨k1, k2⟩ := BudM.within (n := n) (m := x.ord.toNat) (by omega) hq hr h2 h1
      exact hno x hxT ⟨by omega, by omega⟩
  intro n
  induction n with
  | zero =>
    intro T a hT ha p
    unfold BudM.free
    split
    · rename_i h; exact one 0 T a h p
    · rename_i x r h
      have hx : x ∈ BudM.ins T a 0 := by rw [h]; exact List.mem_cons_self
      exact none 0 T a x r hT ha h (hT x (BudM.mem_ins.1 hx).1).1 p
  | succ n ih =>
    intro T a hT ha p
    unfold BudM.free
    split
    · rename_i h; exact one (n + 1) T a h p
    · rename_i x r h
      split
      · rename_i ho; exact none (n + 1) T a x r hT ha h ho p
      · have hI : ∀ y ∈ x :: r, BudM.Al y := fun y hy => hT y (by rw [← h] at hy; exact (BudM.mem_ins.1 hy).1)
        have hpn := BudM.pow_pos n
        obtain ⟨q, hq⟩ := ha
        have hps := BudM.pow_succ n
        have ha1 : a = (2 * q) * 2 ^ n := by rw [hq, hps, ← Int.mul_assoc, Int.mul_comm q 2]
        have ha2 : a + 2 ^ n = (2 * q + 1) * 2 ^ n := by rw [Int.add_mul, ← ha1]; omega
        have hc : BudM.cnt (BudM.free n (x :: r) a ++ BudM.free n (x :: r) (a + 2 ^ n)) p = BudM.cnt (BudM.free n (x :: r) a) p + BudM.cnt (BudM.free n (x :: r) (a + 2 ^ n)) p := by
          unfold BudM.cnt; rw [List.countP_append]
        rw [hc, ih (x :: r) a hI ⟨2 * q, ha1⟩ p, ih (x :: r) (a + 2 ^ n) hI ⟨2 * q + 1, ha2⟩ p]
        have hin : ∀ hp : a ≤ p ∧ p < a + 2 ^ (n + 1), ((∀ y ∈ x :: r, ¬ (y.at_ ≤ p ∧ p < y.at_ + 2 ^ y.ord.toNat)) ↔ ∀ y ∈ T, ¬ (y.at_ ≤ p ∧ p < y.at_ + 2 ^ y.ord.toNat)) := by
          intro hp
          rw [← h]
          constructor
          · intro h1 y hy h2
            exact h1 y (BudM.mem_ins.2 ⟨hy, by omega, by omega⟩) h2
          · intro h1 y hy
            exact h1 y (BudM.mem_ins.1 hy).1
        by_cases hp : a ≤ p ∧ p < a + 2 ^ (n + 1)
        · have hin := hin hp
          by_cases hno : ∀ y ∈ T, ¬ (y.at_ ≤ p ∧ p < y.at_ + 2 ^ y.ord.toNat)
          · have hno2 := hin.2 hno
            rw [if_pos (show _ ∧ _ from ⟨hp, hno⟩)]
            by_cases hl : p < a + 2 ^ n
            · rw [if_pos (show _ ∧ _ from ⟨⟨hp.1, hl⟩, hno2⟩), if_neg (fun hh => by have := hh.1.1; omega)]
            · rw [if_neg (fun hh => hl hh.1.2), if_pos (show _ ∧ _ from ⟨⟨by omega, by omega⟩, hno2⟩)]
          · have hno2 := fun hh => hno (hin.1 hh)
            rw [if_neg (fun hh => hno2 hh.2), if_neg (fun hh => hno2 hh.2), if_neg (fun hh => hno hh.2)]
        · rw [if_neg (fun hh => hp ⟨hh.1.1, by have := hh.1.2; omega⟩), if_neg (fun hh => hp ⟨by have := hh.1.1; omega, by have := hh.1.2; omega⟩), if_neg (fun hh => hp hh.1)]
/-- Each free block lies within, at a place that its width divides; and unless it is all, its double touches what is taken. -/
theorem BudM.parts : ∀ (n : Nat) (T : List BkM) (a : Int), (∃ q : Int, a = q * 2 ^ n) → ∀ y ∈ BudM.free n T a, ∃ k : Nat, y.ord = k ∧ k ≤ n ∧ (∃ q : Int, y.at_ = q * 2 ^ k) ∧ a ≤ y.at_ ∧ y.at_ + 2 ^ k ≤ a + 2 ^ n ∧
    ((k = n ∧ y.at_ = a) ∨ ∃ x ∈ T, ∃ q : Int, (q * 2 ^ (k + 1) ≤ y.at_ ∧ y.at_ + 2 ^ k ≤ q * 2 ^ (k + 1) + 2 ^ (k + 1)) ∧ x.at_ < q * 2 ^ (k + 1) + 2 ^ (k + 1) ∧ q * 2 ^ (k + 1) < x.at_ + 2 ^ x.ord.toNat) := by
  intro n
  induction n with
  | zero =>
    intro T a ha y hy
    unfold BudM.free at hy
    split at hy
    · have hy : y = ⟨a, 0⟩ := by simpa using hy
      subst hy
      exact ⟨0, rfl, Nat.le_refl _, ha, Int.le_refl _, Int.le_refl _, Or.inl ⟨rfl, rfl⟩⟩
    · simp at hy
  | succ n ih =>
    intro T a ha y hy
    unfold BudM.free at hy
    split at hy
    · have hy : y = ⟨a, (n + 1 : Nat)⟩ := by simpa using hy
      subst hy
      exact ⟨n + 1, rfl, Nat.le_refl _, ha, Int.le_refl _, Int.le_refl _, Or.inl ⟨rfl, rfl⟩⟩
    · rename_i x r h
      split at hy
      · simp at hy
      · obtain ⟨q, hq⟩ := ha
        have hps := BudM.pow_succ n
        have hpn := BudM.pow_pos n
        have ha1 : a = (2 * q) * 2 ^ n := by rw [hq, hps, ← Int.mul_assoc, Int.mul_comm q 2]
        have ha2 : a + 2 ^ n = (2 * q + 1) * 2 ^ n := by rw [Int.add_mul, ← ha1]; omega
        have hxI : x ∈ BudM.ins T a (n + 1) := by rw [h]; exact List.mem_cons_self
        obtain ⟨hxT, hx1, hx2⟩ := BudM.mem_ins.1 hxI
        have hsub : ∀ z ∈ x :: r, z ∈ T := fun z hz => by rw [← h] at hz; exact (BudM.mem_ins.1 hz).1
        rcases List.mem_append.1 hy with hy | hy
        · obtain ⟨k, h1, h2, h3, h4, h5, h6⟩ := ih (x :: r) a ⟨2 * q, ha1⟩ y hy
          refine ⟨k, h1, by omega, h3, h4, by omega, Or.inr ?_⟩
          rcases h6 with ⟨rfl, h6⟩ | ⟨z, hz, q', h6⟩
          · exact ⟨x, hxT, q, ⟨by rw [← hq]; omega, by rw [← hq]; omega⟩, by rw [← hq]; exact hx1, by rw [← hq]; exact hx2⟩
          · exact ⟨z, hsub z hz, q', h6⟩
        · obtain ⟨k, h1, h2, h3, h4, h5, h6⟩ := ih (x :: r) (a + 2 ^ n) ⟨2 * q + 1, ha2⟩ y hy
          refine ⟨k, h1, by omega, h3, by omega, by omega, Or.inr ?_⟩
          rcases h6 with ⟨rfl, h6⟩ | ⟨z, hz, q', h6⟩
          · exact ⟨x, hxT, q, ⟨by rw [← hq]; omega, by rw [← hq]; omega⟩, by rw [← hq]; exact hx1, by rw [← hq]; exact hx2⟩
          · exact ⟨z, hsub z hz, q', h6⟩
end Go.Proofs.Ytfmgncfikaefhaa
