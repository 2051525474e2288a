/- What nobody can see any more, in plain Lean: which versions are kept, and that nobody sees otherwise. -/
import Derived.Test.YtfmgncfikaefhaaHeap
import Derived.Maps.Views
namespace Go.Proofs.Ytfmgncfikaefhaa
open Go.RowKit Go.Lib Go.Maps

structure VacM.Ok (l : List (Int × ByteArray)) (act : List Int) (now : Int) : Prop where
  len : l.length ≤ 100
  alen : act.length ≤ 12
  pos : ∀ v ∈ l, 0 < v.1 ∧ v.1 ≤ now
  inc : l.Pairwise (fun u v => u.1 < v.1)
  act : ∀ s ∈ act, 0 ≤ s ∧ s ≤ now
  now0 : 0 ≤ now

/-- Is v the newest one that is seen from one of the times S? -/
def VacM.hit (l : List (Int × ByteArray)) (S : List Int) (v : Int × ByteArray) : Bool :=
  S.any fun s => decide (v.1 ≤ s) && l.all (fun u => !decide (u.1 ≤ s) || decide (u.1 ≤ v.1))
def VacM.keep (l : List (Int × ByteArray)) (S : List Int) : List (Int × ByteArray) := l.filter (VacM.hit l S)
theorem VacM.hit_iff {l : List (Int × ByteArray)} {S : List Int} {v : Int × ByteArray} : VacM.hit l S v = true ↔ ∃ s ∈ S, v.1 ≤ s ∧ ∀ u ∈ l, u.1 ≤ s → u.1 ≤ v.1 := by
  unfold VacM.hit
  rw [List.any_eq_true]
  constructor
  · rintro ⟨s, hs, h⟩
    rw [Bool.and_eq_true, List.all_eq_true] at h
    refine ⟨s, hs, of_decide_eq_true h.1, fun u hu hus => ?_⟩
    have := h.2 u hu
    rw [decide_eq_true hus] at this
    simpa using this
  · rintro ⟨s, hs, h1, h2⟩
    refine ⟨s, hs, ?_⟩
    rw [Bool.and_eq_true, List.all_eq_true]
    refine ⟨decide_eq_true h1, fun u hu => ?_⟩
    by_cases h : u.1 ≤ s
    · simp [h2 u hu h]
    · simp [h]

/-- What Read tells. -/
def VacM.Rd (l : List (Int × ByteArray)) (s : Int) (t : ByteArray) (ok : Bool) : Prop :=
  (ok = false ∧ t = ByteArray.empty ∧ ∀ v ∈ l, ¬ v.1 ≤ s) ∨ (ok = true ∧ ∃ v ∈ l, v.1 ≤ s ∧ v.2 = t ∧ ∀ u ∈ l, u.1 ≤ s → u.1 ≤ v.1)

theorem VacM.uniq {l : List (Int × ByteArray)} (h : l.Pairwise (fun u v => u.1 < v.1)) {u v : Int × ByteArray} (hu : u ∈ l) (hv : v ∈ l) (e : u.1 = v.1) : u = v := by
  induction l with
  | nil => simp at hu
  | cons a l ih =>
    rw [List.pairwise_cons] at h
    rcases List.mem_cons.1 hu with hu | hu
    · rcases List.mem_cons.1 hv with hv | hv
      · rw [hu, hv]
      · have := h.1 v hv; rw [hu] at e; omega
    · rcases List.mem_cons.1 hv with hv | hv
      · have := h.1 u hu; rw [hv] at e; omega
      · exact ih h.2 hu hv

theorem VacM.same {l : List (Int × ByteArray)} {act : List Int} {now s : Int} (h : VacM.Ok l act now) (hs : s ∈ act ++ [now] ∨ now ≤ s) {t u : ByteArray} {ok is : Bool}
    (h1 : VacM.Rd l s t ok) (h2 : VacM.Rd (VacM.keep l (act ++ [now])) s u is) : t = u ∧ ok = is := by
  rcases h1 with ⟨rfl, rfl, hn⟩ | ⟨rfl, v, hv, hvs, rfl, hm⟩
  · rcases h2 with ⟨rfl, rfl, _⟩ | ⟨rfl, w, hw, hws, _⟩
    · exact ⟨rfl, rfl⟩
    · exact absurd hws (hn w (List.mem_filter.1 hw).1)
  · have hk : v ∈ VacM.keep l (act ++ [now]) := by
      refine List.mem_filter.2 ⟨hv, VacM.hit_iff.2 ?_⟩
      rcases hs with hs | hs
      · exact ⟨s, hs, hvs, hm⟩
      · exact ⟨now, by simp, (h.pos v hv).2, fun u hu hun => hm u hu (by omega)⟩
    rcases h2 with ⟨_, _, hn⟩ | ⟨rfl, w, hw, hws, rfl, hm2⟩
    · exact absurd hvs (hn v hk)
    · have hwl := (List.mem_filter.1 hw).1
      have a := hm w hwl hws
      have b := hm2 v hk hvs
      have := VacM.uniq h.inc hv hwl (by omega)
      rw [this]; exact ⟨rfl, rfl⟩

theorem VacM.keep_ok {l : List (Int × ByteArray)} {act : List Int} {now : Int} (h : VacM.Ok l act now) (S : List Int) : VacM.Ok (VacM.keep l S) act now where
  len := Nat.le_trans (List.length_filter_le _ _) h.len
  alen := h.alen
  pos := fun v hv => h.pos v (List.mem_filter.1 hv).1
  inc := h.inc.filter _
  act := h.act
  now0 := h.now0
theorem VacM.again (l : List (Int × ByteArray)) (S : List Int) : VacM.keep (VacM.keep l S) S = VacM.keep l S := by
  refine List.filter_eq_self.2 fun v hv => VacM.hit_iff.2 ?_
  obtain ⟨s, hs, h1, h2⟩ := VacM.hit_iff.1 (List.mem_filter.1 hv).2
  exact ⟨s, hs, h1, fun u hu hus => h2 u (List.mem_filter.1 hu).1 hus⟩

/-- Of what is kept each one is what someone sees. -/
theorem VacM.needed {l : List (Int × ByteArray)} {S : List Int} (hinc : l.Pairwise (fun u v => u.1 < v.1)) {i : Nat} (hi : i < (VacM.keep l S).length) :
    ∃ s ∈ S, (VacM.keep l S)[i].1 ≤ s ∧ ∀ h : i + 1 < (VacM.keep l S).length, ¬ (VacM.keep l S)[i + 1].1 ≤ s := by
  have hm : (VacM.keep l S)[i] ∈ VacM.keep l S := List.getElem_mem hi
  obtain ⟨s, hs, h1, h2⟩ := VacM.hit_iff.1 (List.mem_filter.1 hm).2
  refine ⟨s, hs, h1, fun h he => ?_⟩
  have hp : (VacM.keep l S).Pairwise (fun u v => u.1 < v.1) := hinc.filter _
  have a := List.pairwise_iff_getElem.1 hp i (i + 1) hi h (Nat.lt_succ_self _)
  have b := h2 _ (List.mem_filter.1 (List.getElem_mem h)).1 he
  omega

/-- How many are not newer than s. -/
def VacM.cnt (l : List (Int × ByteArray)) (s : Int) : Nat := l.countP (fun v => decide (v.1 ≤ s))
theorem VacM.cnt_le (l : List (Int × ByteArray)) (s : Int) : VacM.cnt l s ≤ l.length := List.countP_le_length
theorem VacM.cnt_iff {l : List (Int × ByteArray)} (h : l.Pairwise (fun u v => u.1 < v.1)) (s : Int) : ∀ {i : Nat} (hi : i < l.length), i < VacM.cnt l s ↔ l[i].1 ≤ s := by
  induction l with
  | nil => intro i hi; simp at hi
  | cons a l ih =>
    rw [List.pairwise_cons] at h
    intro i hi
    have hc : VacM.cnt (a :: l) s = VacM.cnt l s + if a.1 ≤ s then 1 else 0 := by
      unfold VacM.cnt
      rw [List.countP_cons]
      by_cases e : a.1 ≤ s <;> simp [e]
    rw [hc]
    by_cases e : a.1 ≤ s
    · rw [if_pos e]
      cases i with
      | zero => simp [e]
      | succ i =>
        rw [List.getElem_cons_succ]
        rw [← ih h.2 (by simpa using hi)]
        omega
    · have hz : VacM.cnt l s = 0 := by
        unfold VacM.cnt
        rw [List.countP_eq_zero]
        intro v hv
        have := h.1 v hv
        simp; omega
      rw [if_neg e, hz]
      cases i with
      | zero => simp [e]
      | succ i =>
        rw [List.getElem_cons_succ]
        have hil : i < l.length := by simpa using hi
        have := h.1 l[i] (List.getElem_mem hil)
        constructor
        · omega
        · omega
theorem VacM.hit_cnt {l : List (Int × ByteArray)} (h : l.Pairwise (fun u v => u.1 < v.1)) (S : List Int) {i : Nat} (hi : i < l.length) : VacM.hit l S l[i] = true ↔ ∃ s ∈ S, (VacM.cnt l s : Int) - 1 = i := by
  rw [VacM.hit_iff]
  have hp := List.pairwise_iff_getElem.1 h
  constructor
  · rintro ⟨s, hs, h1, h2⟩
    refine ⟨s, hs, ?_⟩
    have a := (VacM.cnt_iff h s hi).2 h1
    have b : ¬ i + 1 < VacM.cnt l s := fun hc => by
      have hl : i + 1 < l.length := Nat.lt_of_lt_of_le hc (VacM.cnt_le l s)
      have c := (VacM.cnt_iff h s hl).1 hc
      have d := h2 _ (List.getElem_mem hl) c
      have := hp i (i + 1) hi hl (Nat.lt_succ_self _)
      omega
    omega
  · rintro ⟨s, hs, he⟩
    refine ⟨s, hs, (VacM.cnt_iff h s hi).1 (by omega), fun u hu hus => ?_⟩
    obtain ⟨j, hj, rfl⟩ := List.getElem_of_mem hu
    have a := (VacM.cnt_iff h s hj).2 hus
    by_cases e : j = i
    · subst e; exact Int.le_refl _
    · exact Int.le_of_lt (hp j i hj hi (by omega))

/-- How often each place was seen, as a map. -/
def VacM.D (xs : List Int) : Nat → DataW Unit
  | 0 => .map []
  | i + 1 => if h : i < xs.length then (VacM.D xs i).put (.int .i64 xs[i]) (.lit (.int .i64 (((xs.take i).count xs[i] : Nat) + 1 : Int))) else VacM.D xs i
theorem VacM.isMap (xs : List Int) : ∀ i, IsMap (VacM.D xs i)
  | 0 => isMap_empty
  | i + 1 => by
    unfold VacM.D
    split
    · exact (VacM.isMap xs i).put _ _
    · exact VacM.isMap xs i
theorem VacM.key (t : Int) : WideAt.IsKeyLit (.int .i64 t) := by simp [WideAt.IsKeyLit]
theorem VacM.key_ne {a b : Int} (h : a ≠ b) : (Lit.int .i64 a) ≠ Lit.int .i64 b := fun e => h (by injection e)
theorem VacM.at_ (xs : List Int) (t : Int) : ∀ i, i ≤ xs.length → (VacM.D xs i).atKey (.int .i64 t) (.lit (.int .i64 0)) = .lit (.int .i64 ((xs.take i).count t : Nat))
  | 0, _ => by
    rw [show VacM.D xs 0 = .map [] from rfl, atKey_of_not_has (by simp [Maps.has])]
    simp
  | i + 1, hi => by
    have hil : i < xs.length := by omega
    have ih := VacM.at_ xs t i (by omega)
    unfold VacM.D
    rw [dif_pos hil]
    rw [List.take_succ_eq_append_getElem hil, List.count_append, List.count_cons, List.count_nil]
    by_cases e : xs[i] = t
    · rw [e, atKey_put_same (VacM.isMap xs i) (VacM.key t)]
      simp
    · rw [atKey_put_other (VacM.key_ne (Ne.symm e)), ih]
      have : (xs[i] == t) = false := by simpa using e
      rw [this]; simp
theorem VacM.count_pos {xs : List Int} {t : Int} : 0 < xs.count t ↔ t ∈ xs := List.count_pos_iff

/-- Check's loop over the versions. -/
def VacM.go (now : Int) : Int → List (Int × ByteArray) → Bool
  | _, [] => true
  | e, v :: r => if v.1 ≤ e ∨ now < v.1 then false else VacM.go now v.1 r
theorem VacM.go_iff {now : Int} : ∀ {l : List (Int × ByteArray)} {e : Int}, VacM.go now e l = true ↔ (∀ v ∈ l, e < v.1 ∧ v.1 ≤ now) ∧ l.Pairwise (fun u v => u.1 < v.1)
  | [], e => by simp [VacM.go]
  | v :: r, e => by
    rw [VacM.go, List.pairwise_cons]
    have ih := @VacM.go_iff now r v.1
    split
    · rename_i h
      constructor
      · intro h2; simp at h2
      · rintro ⟨h2, _⟩
        have := h2 v (by simp)
        omega
    · rename_i h
      rw [ih]
      constructor
      · rintro ⟨h1, h2⟩
        refine ⟨fun u hu => ?_, fun u hu => (h1 u hu).1, h2⟩
        rcases List.mem_cons.1 hu with rfl | hu
        · omega
        · have := h1 u hu; omega
      · rintro ⟨h1, h2, h3⟩
        exact ⟨fun u hu => ⟨h2 u hu, (h1 u (by simp [hu])).2⟩, h3⟩
def VacM.badS (now s : Int) : Bool := decide (s < 0) || decide (now < s)
def VacM.chk (l : List (Int × ByteArray)) (act : List Int) (now : Int) : Int :=
  if 100 < l.length ∨ 12 < act.length then 2 else if now < 0 then 1 else if VacM.go now 0 l = false then 4 else if act.any (VacM.badS now) then 1 else 0
theorem VacM.chk_iff {l : List (Int × ByteArray)} {act : List Int} {now : Int} : VacM.chk l act now = 0 ↔ VacM.Ok l act now := by
  unfold VacM.chk
  constructor
  · intro h
    split at h
    · omega
    split at h
    · omega
    split at h
    · omega
    split at h
    · omega
    rename_i h1 h2 h3 h4
    have h3 : VacM.go now 0 l = true := by simpa using h3
    obtain ⟨g1, g2⟩ := VacM.go_iff.1 h3
    refine ⟨by omega, by omega, g1, g2, fun s hs => ?_, by omega⟩
    have h4 : act.any (VacM.badS now) = false := by simpa using h4
    have := List.any_eq_false.1 h4 s hs
    simp only [VacM.badS, Bool.or_eq_true, decide_eq_true_eq] at this
    omega
  · intro h
    have h1 := h.len; have h2 := h.alen; have h3 := h.now0
    rw [if_neg (by omega), if_neg (by omega), if_neg, if_neg]
    · intro h4
      rw [List.any_eq_true] at h4
      obtain ⟨s, hs, hb⟩ := h4
      have := h.act s hs
      simp only [VacM.badS, Bool.or_eq_true, decide_eq_true_eq] at hb
      omega
    · rw [VacM.go_iff.2 ⟨h.pos, h.inc⟩]; simp

/-- Read's loop: the last one so far that is not newer than s. -/
def VacM.last (l : List (Int × ByteArray)) (s : Int) : Nat → Int
  | 0 => -1
  | k + 1 => if h : k < l.length then (if l[k].1 ≤ s then (k : Int) else VacM.last l s k) else VacM.last l s k
theorem VacM.last_spec (l : List (Int × ByteArray)) (s : Int) : ∀ k, k ≤ l.length →
    (VacM.last l s k = -1 ∧ ∀ j (h : j < l.length), j < k → ¬ l[j].1 ≤ s) ∨ (∃ i, ∃ h : i < l.length, i < k ∧ VacM.last l s k = (i : Int) ∧ l[i].1 ≤ s ∧ ∀ j (h : j < l.length), i < j → j < k → ¬ l[j].1 ≤ s)
  | 0, _ => Or.inl ⟨rfl, fun j _ h => by omega⟩
  | k + 1, hk => by
    have ih := VacM.last_spec l s k (by omega)
    have hkl : k < l.length := by omega
    unfold VacM.last
    rw [dif_pos hkl]
    by_cases e : l[k].1 ≤ s
    · rw [if_pos e]
      exact Or.inr ⟨k, hkl, by omega, rfl, e, fun j h h1 h2 => by omega⟩
    · rw [if_neg e]
      rcases ih with ⟨h1, h2⟩ | ⟨i, h, h1, h2, h3, h4⟩
      · refine Or.inl ⟨h1, fun j hj hjk => ?_⟩
        by_cases ej : j = k
        · subst ej; exact e
        · exact h2 j hj (by omega)
      · refine Or.inr ⟨i, h, by omega, h2, h3, fun j hj hij hjk => ?_⟩
        by_cases ej : j = k
        · subst ej; exact e
        · exact h4 j hj hij (by omega)
theorem VacM.rd_none {l : List (Int × ByteArray)} {s : Int} (h : VacM.last l s l.length = -1) : VacM.Rd l s ByteArray.empty false := by
  rcases VacM.last_spec l s l.length (Nat.le_refl _) with ⟨_, h2⟩ | ⟨i, _, _, h2, _⟩
  · refine Or.inl ⟨rfl, rfl, fun v hv => ?_⟩
    obtain ⟨j, hj, rfl⟩ := List.getElem_of_mem hv
    exact h2 j hj hj
  · omega
theorem VacM.rd_some {l : List (Int × ByteArray)} (hinc : l.Pairwise (fun u v => u.1 < v.1)) {s : Int} {i : Nat} (h : VacM.last l s l.length = (i : Int)) : ∃ hi : i < l.length, VacM.Rd l s l[i].2 true := by
  rcases VacM.last_spec l s l.length (Nat.le_refl _) with ⟨h1, _⟩ | ⟨i', hi, _, h2, h3, h4⟩
  · omega
  · obtain rfl : i' = i := by omega
    refine ⟨hi, Or.inr ⟨rfl, l[i'], List.getElem_mem hi, h3, rfl, fun u hu hus => ?_⟩⟩
    obtain ⟨j, hj, rfl⟩ := List.getElem_of_mem hu
    by_cases e : i' < j
    · exact absurd hus (h4 j hj e hj)
    · by_cases e2 : j = i'
      · subst e2; exact Int.le_refl _
      · exact Int.le_of_lt (List.pairwise_iff_getElem.1 hinc j i' hj hi (by omega))
end Go.Proofs.Ytfmgncfikaefhaa
