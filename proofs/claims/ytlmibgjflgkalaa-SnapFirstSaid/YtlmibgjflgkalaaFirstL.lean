/- SnapFirst, in plain Lean: what its two inner loops gather. -/
import Derived.Test.YtlmibgjflgkalaaFirstM
namespace Go.Proofs.Ytlmibgjflgkalaa
open Go.RowKit Go.Lib

def FirstM.isMine (tx : Int) (p : OpM) : Bool := (p.tx == tx) && (p.kind == 2)
def FirstM.mine (l : List OpM) (tx : Int) (k : Nat) : List Int := ((l.take k).filter (FirstM.isMine tx)).map OpM.item
theorem FirstM.mine_zero (l : List OpM) (tx : Int) : FirstM.mine l tx 0 = [] := by simp [FirstM.mine]
theorem FirstM.mine_succ (l : List OpM) (tx : Int) (k : Nat) (h : k < l.length) : FirstM.mine l tx (k + 1) = FirstM.mine l tx k ++ (if FirstM.isMine tx l[k] = true then [l[k].item] else []) := by
  unfold FirstM.mine
  rw [List.take_succ_eq_append_getElem h, List.filter_append, List.map_append]
  congr 1
  by_cases e : FirstM.isMine tx l[k] = true
  · rw [if_pos e]; simp [e]
  · rw [if_neg e]; simp [e]
theorem FirstM.mine_len (l : List OpM) (tx : Int) (k : Nat) : (FirstM.mine l tx k).length ≤ k := by
  unfold FirstM.mine
  rw [List.length_map]
  have := List.length_filter_le (FirstM.isMine tx) (l.take k)
  rw [List.length_take] at this
  omega
theorem FirstM.mem_mine (l : List OpM) (tx : Int) (i : Nat) (hi : i ≤ l.length) (x : Int) : x ∈ FirstM.mine l tx i ↔ ∃ j, ∃ h : j < l.length, j < i ∧ l[j].tx = tx ∧ l[j].kind = 2 ∧ l[j].item = x := by
  unfold FirstM.mine
  rw [List.mem_map]
  constructor
  · rintro ⟨p, hp, rfl⟩
    rw [List.mem_filter] at hp
    obtain ⟨hp, hm⟩ := hp
    obtain ⟨j, hj, rfl⟩ := List.mem_iff_getElem.1 hp
    rw [List.length_take] at hj
    rw [List.getElem_take] at hm ⊢
    simp only [FirstM.isMine, Bool.and_eq_true, beq_iff_eq] at hm
    exact ⟨j, by omega, by omega, hm.1, hm.2, rfl⟩
  · rintro ⟨j, hj, hji, h1, h2, h3⟩
    refine ⟨l[j], List.mem_filter.2 ⟨List.mem_iff_getElem.2 ⟨j, by rw [List.length_take]; omega, by rw [List.getElem_take]⟩, by simp [FirstM.isMine, h1, h2]⟩, h3⟩
def FirstM.touch (m : List Int) (t : Int) (q : OpM) : Bool := (q.tx == t) && ((q.kind == 2) && decide (q.item ∈ m))
def FirstM.guard (l : List OpM) (f k : Nat) (h : k < l.length) : Bool := (l[k].kind == 3) && ((SnapM.tell l k h).ok && decide (f < k))
def FirstM.hit (l : List OpM) (m : List Int) (f k : Nat) : Bool := if h : k < l.length then FirstM.guard l f k h && (l.take k).any (FirstM.touch m l[k].tx) else false
def FirstM.lost (l : List OpM) (m : List Int) (f : Nat) : Nat → Bool
  | 0 => false
  | k + 1 => FirstM.lost l m f k || FirstM.hit l m f k
theorem FirstM.lost_no (l : List OpM) (m : List Int) (f k : Nat) (h : k < l.length) (hg : FirstM.guard l f k h = false) : FirstM.lost l m f (k + 1) = FirstM.lost l m f k := by
  show (_ || FirstM.hit l m f k) = _
  unfold FirstM.hit
  rw [dif_pos h, hg]; simp
theorem FirstM.lost_yes (l : List OpM) (m : List Int) (f k : Nat) (h : k < l.length) (hg : FirstM.guard l f k h = true) : FirstM.lost l m f (k + 1) = (FirstM.lost l m f k || (l.take k).any (FirstM.touch m l[k].tx)) := by
  show (_ || FirstM.hit l m f k) = _
  unfold FirstM.hit
  rw [dif_pos h, hg]; simp
theorem FirstM.any_succ {α : Type} (l : List α) (p : α → Bool) (k : Nat) (h : k < l.length) (b : Bool) : (b || (l.take (k + 1)).any p) = ((b || (l.take k).any p) || p l[k]) := by
  rw [List.take_succ_eq_append_getElem h, List.any_append]; simp [Bool.or_assoc]
theorem FirstM.lost_iff (l : List OpM) (m : List Int) (f : Nat) : ∀ k, FirstM.lost l m f k = true ↔ ∃ j, j < k ∧ FirstM.hit l m f j = true
  | 0 => ⟨fun h => by simp [FirstM.lost] at h, fun ⟨_, h, _⟩ => by omega⟩
  | k + 1 => by
    show (_ || _) = true ↔ _
    rw [Bool.or_eq_true, FirstM.lost_iff l m f k]
    constructor
    · rintro (⟨j, h1, h2⟩ | h)
      · exact ⟨j, by omega, h2⟩
      · exact ⟨k, by omega, h⟩
    · rintro ⟨j, h1, h2⟩
      by_cases e : j = k
      · subst e; exact Or.inr h2
      · exact Or.inl ⟨j, by omega, h2⟩
theorem FirstM.lost_ok {l : List OpM} (hg : RunM.go l (fun _ => false) = 0) (hb : ∀ o ∈ l, RunM.bad o = 0) {i f : Nat} (hi : i < l.length) (hk : l[i].kind = 3) (hf : f ≤ i) (hft : l[f].tx = l[i].tx) (hf0 : ∀ j (h : j < l.length), j < f → l[j].tx ≠ l[i].tx) :
    FirstM.lost l (FirstM.mine l l[i].tx i) f i = !(SnapM.tell l i hi).ok := by
  have H := SnapM.first hg hb hi hk hf hft hf0
  have H2 : FirstM.lost l (FirstM.mine l l[i].tx i) f i = true ↔ (SnapM.tell l i hi).ok = false := by
    rw [H, FirstM.lost_iff]
    constructor
    · rintro ⟨k, hki, h⟩
      have hkl : k < l.length := by omega
      unfold FirstM.hit FirstM.guard at h
      rw [dif_pos hkl] at h
      simp only [Bool.and_eq_true, decide_eq_true_eq, beq_iff_eq, List.any_eq_true, FirstM.touch] at h
      obtain ⟨⟨h1, h2, h3⟩, q, hq, h4, h5, h6⟩ := h
      obtain ⟨j, hj, rfl⟩ := List.mem_iff_getElem.1 hq
      rw [List.length_take] at hj
      rw [List.getElem_take] at h4 h5 h6
      obtain ⟨j', hj', h7, h8, h9, h10⟩ := (FirstM.mem_mine l _ i (by omega) _).1 h6
      exact ⟨k, hkl, hki, h1, h2, h3, j, by omega, by omega, h4, h5, j', hj', h7, h8, h9, h10⟩
    · rintro ⟨k, hkl, hki, h1, h2, h3, j, hj, hjk, h4, h5, j', hj', h7, h8, h9, h10⟩
      refine ⟨k, hki, ?_⟩
      unfold FirstM.hit FirstM.guard
      rw [dif_pos hkl]
      simp only [Bool.and_eq_true, decide_eq_true_eq, beq_iff_eq, List.any_eq_true, FirstM.touch]
      exact ⟨⟨h1, h2, h3⟩, l[j], List.mem_iff_getElem.2 ⟨j, by rw [List.length_take]; omega, by rw [List.getElem_take]⟩, h4, h5, (FirstM.mem_mine l _ i (by omega) _).2 ⟨j', hj', h7, h8, h9, h10⟩⟩
  cases ho : (SnapM.tell l i hi).ok with
  | true =>
    cases hh : FirstM.lost l (FirstM.mine l l[i].tx i) f i with
    | true => have := H2.1 hh; rw [ho] at this; simp at this
    | false => rfl
  | false => rw [H2.2 ho]; rfl
end Go.Proofs.Ytlmibgjflgkalaa
