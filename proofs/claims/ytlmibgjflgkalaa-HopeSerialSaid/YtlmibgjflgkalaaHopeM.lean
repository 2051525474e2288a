/- What is looked at when all is done, in plain Lean: who is let go, and what he would have read. -/
import Derived.Test.YtlmibgjflgkalaaHeap
namespace Go.Proofs.Ytlmibgjflgkalaa
open Go.RowKit Go.Lib

structure TryM where
  st : Int
  en : Int
  rd : List Int
  wr : List Int
  deriving Inhabited

def HopeM.badT (k : Int) : Bool := decide (k < 0) || decide (20 ≤ k)
/-- What Check asks of all. -/
structure HopeM.Ok (l : List TryM) : Prop where
  len : l.length ≤ 40
  one : ∀ t ∈ l, 0 ≤ t.st ∧ t.st < t.en ∧ t.en ≤ 100000 ∧ t.rd.length ≤ 20 ∧ t.wr.length ≤ 20 ∧ (∀ k ∈ t.rd ++ t.wr, HopeM.badT k = false)
  inc : ∀ i (h : i + 1 < l.length), l[i].en < l[i + 1].en

def HopeM.meet (a b : List Int) : Bool := a.any fun k => b.any fun m => m == k
theorem HopeM.meet_iff {a b : List Int} : HopeM.meet a b = true ↔ ∃ k, k ∈ a ∧ k ∈ b := by
  simp only [HopeM.meet, List.any_eq_true, beq_iff_eq]
  constructor
  · rintro ⟨k, h1, m, h2, rfl⟩; exact ⟨m, h1, h2⟩
  · rintro ⟨k, h1, h2⟩; exact ⟨k, h1, k, h2, rfl⟩
/-- Does the one at k stand in the way of the one at i? -/
def HopeM.hits (l : List TryM) (k i : Nat) : Bool := if h : k < l.length ∧ i < l.length then decide (l[i].st < l[k].en) && HopeM.meet l[k].wr l[i].rd else false
/-- who is let go, after n of them were looked at. -/
def HopeM.js (l : List TryM) : Nat → Nat → Bool
  | 0 => fun _ => false
  | n + 1 => upd (HopeM.js l n) n (!(List.range n).any fun k => HopeM.js l n k && HopeM.hits l k n)
theorem HopeM.js_stays (l : List TryM) (k : Nat) : ∀ n, k < n → HopeM.js l n k = HopeM.js l (k + 1) k := by
  intro n hn
  induction n with
  | zero => omega
  | succ n ih =>
    by_cases e : k = n
    · subst e; rfl
    · rw [show HopeM.js l (n + 1) = upd (HopeM.js l n) n _ from rfl, upd_other _ _ e, ih (by omega)]
theorem HopeM.js_at (l : List TryM) (N k : Nat) (h : k < N) : HopeM.js l N k = !(List.range k).any (fun m => HopeM.js l N m && HopeM.hits l m k) := by
  rw [HopeM.js_stays l k N h, show HopeM.js l (k + 1) = upd (HopeM.js l k) k _ from rfl, upd_same]
  congr 1
  rw [Bool.eq_iff_iff, List.any_eq_true, List.any_eq_true]
  constructor
  · rintro ⟨m, hm, he⟩
    have hmk := List.mem_range.1 hm
    refine ⟨m, hm, ?_⟩
    rw [HopeM.js_stays l m N (by omega), ← HopeM.js_stays l m k hmk]; exact he
  · rintro ⟨m, hm, he⟩
    have hmk := List.mem_range.1 hm
    refine ⟨m, hm, ?_⟩
    rw [HopeM.js_stays l m k hmk, ← HopeM.js_stays l m N (by omega)]; exact he

/-- Is the one at n the writer of an item up to a time? -/
def HopeM.isW (l : List TryM) (J : Nat → Bool) (item time : Int) (n : Nat) : Bool := if h : n < l.length then J n && (decide (l[n].en ≤ time) && l[n].wr.any (fun m => m == item)) else false
def HopeM.writer (l : List TryM) (J : Nat → Bool) (item time : Int) : Nat → Int
  | 0 => -1
  | n + 1 => if HopeM.isW l J item time n = true then (n : Int) else HopeM.writer l J item time n

theorem HopeM.mono {l : List TryM} (h : HopeM.Ok l) : ∀ (j i : Nat) (hi : i < l.length) (hj : j < l.length), i ≤ j → l[i].en ≤ l[j].en := by
  intro j
  induction j with
  | zero => intro i hi hj hij; have : i = 0 := by omega
            subst this; exact Int.le_refl _
  | succ j ih =>
    intro i hi hj hij
    by_cases e : i = j + 1
    · subst e; exact Int.le_refl _
    · have a := ih i hi (by omega) (by omega)
      have b := h.inc j hj
      omega
theorem HopeM.serial {l : List TryM} (h : HopeM.Ok l) {i : Nat} (hi : i < l.length) (hJ : HopeM.js l l.length i = true) {x : Int} (hx : x ∈ l[i].rd) :
    ∀ n, HopeM.writer l (HopeM.js l l.length) x l[i].st n = HopeM.writer l (HopeM.js l l.length) x (l[i].en - 1) n := by
  intro n
  induction n with
  | zero => rfl
  | succ n ih =>
    have key : HopeM.isW l (HopeM.js l l.length) x l[i].st n = HopeM.isW l (HopeM.js l l.length) x (l[i].en - 1) n := by
      unfold HopeM.isW
      split
      · rename_i hn
        rw [Bool.eq_iff_iff]
        simp only [Bool.and_eq_true, decide_eq_true_eq]
        have hse := (h.one _ (List.getElem_mem hi)).2.1
        constructor
        · rintro ⟨h1, h2, h3⟩; exact ⟨h1, by omega, h3⟩
        · rintro ⟨h1, h2, h3⟩
          refine ⟨h1, ?_, h3⟩
          by_cases hs : l[n].en ≤ l[i].st
          · exact hs
          · exfalso
            have hni : n < i := by
              by_cases e : n < i
              · exact e
              · have := HopeM.mono h n i hi hn (by omega); omega
            rw [HopeM.js_at l l.length i hi] at hJ
            have : ((List.range i).any fun m => HopeM.js l l.length m && HopeM.hits l m i) = true := by
              rw [List.any_eq_true]
              refine ⟨n, List.mem_range.2 hni, ?_⟩
              rw [h1, Bool.true_and]
              unfold HopeM.hits
              rw [dif_pos ⟨hn, hi⟩, Bool.and_eq_true]
              refine ⟨decide_eq_true (by omega), HopeM.meet_iff.2 ⟨x, ?_, hx⟩⟩
              rw [List.any_eq_true] at h3
              obtain ⟨m, hm, e⟩ := h3
              rw [beq_iff_eq] at e; rw [← e]; exact hm
            rw [this] at hJ; simp at hJ
      · rfl
    unfold HopeM.writer
    rw [key, ih]
theorem HopeM.idle {l : List TryM} {i : Nat} (hi : i < l.length) (he : l[i].rd = []) : HopeM.js l l.length i = true := by
  rw [HopeM.js_at l l.length i hi]
  have : ((List.range i).any fun m => HopeM.js l l.length m && HopeM.hits l m i) = false := by
    rw [List.any_eq_false]
    intro m _
    have : HopeM.hits l m i = false := by
      unfold HopeM.hits
      split
      · rw [he]; simp [HopeM.meet]
      · rfl
    rw [this]; simp
  rw [this]; rfl

/-- Check, one at a time. -/
def HopeM.one (t : TryM) : Int := if t.st < 0 ∨ t.en ≤ t.st ∨ 100000 < t.en then 1 else if 20 < t.rd.length ∨ 20 < t.wr.length then 2 else if (t.rd ++ t.wr).any HopeM.badT then 1 else 0
def HopeM.code (l : List TryM) (k : Nat) : Int := if h : k < l.length then (if HopeM.one l[k] ≠ 0 then HopeM.one l[k] else if 0 < k ∧ l[k].en ≤ (l[k - 1]'(by omega)).en then 4 else 0) else 0
def HopeM.upto (l : List TryM) : Nat → Int
  | 0 => 0
  | k + 1 => if HopeM.upto l k ≠ 0 then HopeM.upto l k else HopeM.code l k
def HopeM.chk (l : List TryM) : Int := if 40 < l.length then 2 else HopeM.upto l l.length
theorem HopeM.upto_stays (l : List TryM) {k : Nat} (h : HopeM.upto l k ≠ 0) : ∀ n, k ≤ n → HopeM.upto l n = HopeM.upto l k := by
  intro n hn
  induction n with
  | zero => have : k = 0 := by omega
            subst this; rfl
  | succ n ih =>
    by_cases e : k = n + 1
    · subst e; rfl
    · have := ih (by omega)
      rw [show HopeM.upto l (n + 1) = if HopeM.upto l n ≠ 0 then HopeM.upto l n else HopeM.code l n from rfl, this, if_pos h]
theorem HopeM.upto_zero (l : List TryM) : ∀ n, HopeM.upto l n = 0 → ∀ k, k < n → HopeM.code l k = 0
  | 0, _, k, h => by omega
  | n + 1, hz, k, hk => by
    have e : HopeM.upto l (n + 1) = if HopeM.upto l n ≠ 0 then HopeM.upto l n else HopeM.code l n := rfl
    rw [e] at hz
    split at hz
    · rename_i h; exact absurd hz h
    · rename_i h
      by_cases ek : k = n
      · subst ek; exact hz
      · exact HopeM.upto_zero l n (by simpa using h) k (by omega)
theorem HopeM.one_zero {t : TryM} (h : HopeM.one t = 0) : 0 ≤ t.st ∧ t.st < t.en ∧ t.en ≤ 100000 ∧ t.rd.length ≤ 20 ∧ t.wr.length ≤ 20 ∧ (∀ k ∈ t.rd ++ t.wr, HopeM.badT k = false) := by
  unfold HopeM.one at h
  split at h
  · omega
  split at h
  · omega
  split at h
  · omega
  rename_i h1 h2 h3
  refine ⟨by omega, by omega, by omega, by omega, by omega, fun k hk => ?_⟩
  have h3 : (t.rd ++ t.wr).any HopeM.badT = false := by simpa using h3
  have := List.any_eq_false.1 h3 k hk
  simpa using this
theorem HopeM.chk_ok {l : List TryM} (h : HopeM.chk l = 0) : HopeM.Ok l := by
  unfold HopeM.chk at h
  split at h
  · omega
  rename_i hl
  have hz := HopeM.upto_zero l l.length h
  have ho : ∀ k (hk : k < l.length), HopeM.one l[k] = 0 ∧ ¬ (0 < k ∧ l[k].en ≤ (l[k - 1]'(by omega)).en) := fun k hk => by
    have := hz k hk
    unfold HopeM.code at this
    rw [dif_pos hk] at this
    split at this
    · rename_i h1; exact absurd this h1
    · rename_i h1
      split at this
      · omega
      · rename_i h2; exact ⟨by simpa using h1, h2⟩
  refine ⟨by omega, fun t ht => ?_, fun i hi => ?_⟩
  · obtain ⟨k, hk, rfl⟩ := List.getElem_of_mem ht
    exact HopeM.one_zero (ho k hk).1
  · have := (ho (i + 1) hi).2
    have e : i + 1 - 1 = i := by omega
    simp only [e] at this
    omega
end Go.Proofs.Ytlmibgjflgkalaa
