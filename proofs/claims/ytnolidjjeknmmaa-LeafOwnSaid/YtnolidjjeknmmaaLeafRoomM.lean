/- LeafRoom's plain law: what a Put adds to a page's size. -/
import Derived.Test.YtnolidjjeknmmaaLeafPut2
namespace Go.Proofs.Ytnolidjjeknmmaa

theorem put_any (ls : List (Bool × ByteArray)) (ao : Option Addr) (cap : Nat) (t : ByteArray) (w : World) (h : LeafM.At w ao ls) (hf : LeafM.Fits ls) (hnil : ao = none → cap = 0) :
    Calls Try.prog 27 #[.agg #[.slice ao ls.length cap], .string t] w (LeafM.PutPost ls t w) := by
  by_cases he : LeafM.check ls ≠ 0 ∨ 512 < t.size
  · exact put_early ls ao cap t w h hf he
  · exact put_main ls ao cap t w h hf hnil (by omega) (by omega)

theorem LeafM.sum_set (ls : List (Bool × ByteArray)) : ∀ (k : Nat) (x : Bool × ByteArray) (h : k < ls.length), LeafM.sum (ls.set k x) + LeafM.slot ls[k] = LeafM.sum ls + LeafM.slot x := by
  induction ls with
  | nil => intro k x h; simp at h
  | cons s l ih =>
    intro k x h
    cases k with
    | zero => simp only [List.set_cons_zero, LeafM.sum, List.getElem_cons_zero]; omega
    | succ k =>
      have := ih k x (by simpa using h)
      simp only [List.set_cons_succ, LeafM.sum, List.getElem_cons_succ]; omega
theorem LeafM.put_short (n : Nat) (h : n < 16384) : (CodeM.putNat n).length ≤ 2 := by
  unfold CodeM.putNat
  by_cases h1 : n < 128
  · rw [CodeM.putF_lt _ _ h1]; simp
  · rw [CodeM.putF_ge _ _ h1, CodeM.putF_lt _ _ (by omega)]; simp
theorem LeafM.put_one (n : Nat) (h : n < 128) : (CodeM.putNat n).length = 1 := by
  unfold CodeM.putNat
  rw [CodeM.putF_lt _ _ h]; rfl
theorem LeafM.free_at (ls : List (Bool × ByteArray)) (h : LeafM.firstFree ls < ls.length) : (ls[LeafM.firstFree ls]'h).1 = false := by
  have := List.findIdx_getElem (p := fun s : Bool × ByteArray => !s.1) (xs := ls) (w := h)
  show (ls[List.findIdx (fun s => !s.1) ls]'h).1 = false
  simpa using this

theorem LeafM.put_size {ls : List (Bool × ByteArray)} {t : ByteArray} (hn : ls.length ≤ 40) (ht : t.size ≤ 512) :
    LeafM.size ls + t.size ≤ LeafM.size (LeafM.putOut ls t) ∧ LeafM.size (LeafM.putOut ls t) ≤ LeafM.size ls + t.size + 2 := by
  have h1 := (CodeM.put_len (t.size + 1)).1
  have h2 := LeafM.put_short (t.size + 1) (by omega)
  have hs : LeafM.slot (true, t) = (CodeM.putNat (t.size + 1)).length + t.size := rfl
  unfold LeafM.putOut
  by_cases h : LeafM.firstFree ls < ls.length
  · rw [if_pos h]
    have e := LeafM.sum_set ls _ (true, t) h
    have hf := LeafM.free_at ls h
    have e2 : LeafM.slot (ls[LeafM.firstFree ls]'h) = 1 := by unfold LeafM.slot; rw [hf]; rfl
    unfold LeafM.size
    rw [List.length_set]
    omega
  · rw [if_neg h]
    unfold LeafM.size
    rw [LeafM.sum_snoc, LeafM.put_one ls.length (by omega), LeafM.put_one (ls ++ [(true, t)]).length (by simp; omega)]
    omega

theorem LeafM.putErr_cases {ls : List (Bool × ByteArray)} {t : ByteArray} (hc : LeafM.check ls = 0) (h : LeafM.putErr ls t ≠ 0) :
    LeafM.putErr ls t = 8 ∧ (512 ≤ LeafM.size ls + t.size + 2 ∨ ls.length = 40) := by
  obtain ⟨c1, c2, c3, c4⟩ := LeafM.check_le hc
  unfold LeafM.putErr at h ⊢
  rw [hc] at h ⊢
  simp only [ne_eq, not_true_eq_false, if_false] at h ⊢
  by_cases h1 : 512 < t.size
  · rw [if_pos h1]; exact ⟨rfl, Or.inl (by omega)⟩
  · rw [if_neg h1] at h ⊢
    by_cases h2 : 40 < (LeafM.putOut ls t).length ∨ 512 < LeafM.size (LeafM.putOut ls t)
    · rw [if_pos h2]
      refine ⟨rfl, ?_⟩
      rcases h2 with h2 | h2
      · right
        unfold LeafM.putOut at h2
        split at h2
        · rw [List.length_set] at h2; omega
        · simp at h2; omega
      · left
        have := (LeafM.put_size (t := t) c1 (by omega)).2
        omega
    · rw [if_neg h2] at h; exact absurd rfl h

theorem LeafM.check_out {ls : List (Bool × ByteArray)} {t : ByteArray} (h : LeafM.putErr ls t = 0) : LeafM.check ls = 0 ∧ t.size ≤ 512 ∧ LeafM.check (LeafM.putOut ls t) = 0 := by
  unfold LeafM.putErr at h
  by_cases hc : LeafM.check ls = 0
  · rw [hc] at h
    simp only [ne_eq, not_true_eq_false, if_false] at h
    by_cases h1 : 512 < t.size
    · rw [if_pos h1] at h; simp at h
    · rw [if_neg h1] at h
      by_cases h2 : 40 < (LeafM.putOut ls t).length ∨ 512 < LeafM.size (LeafM.putOut ls t)
      · rw [if_pos h2] at h; simp at h
      · refine ⟨hc, by omega, ?_⟩
        obtain ⟨c1, c2, c3, c4⟩ := LeafM.check_le hc
        have hbad : (LeafM.putOut ls t).any LeafM.bad = false := by
          rw [List.any_eq_false] at c2 ⊢
          intro x hx
          unfold LeafM.putOut at hx
          split at hx
          · rcases List.mem_or_eq_of_mem_set hx with h3 | h3
            · exact c2 x h3
            · rw [h3]; simp [LeafM.bad]
          · rcases List.mem_append.1 hx with h3 | h3
            · exact c2 x h3
            · rw [List.mem_singleton.1 h3]; simp [LeafM.bad]
        have hopen : LeafM.open? (LeafM.putOut ls t) = false := by
          unfold LeafM.putOut
          by_cases hlt : LeafM.firstFree ls < ls.length
          · rw [if_pos hlt]
            unfold LeafM.open? at c3 ⊢
            rw [List.getLast?_eq_getElem?] at c3 ⊢
            rw [List.length_set, List.getElem?_set]
            by_cases he : LeafM.firstFree ls = ls.length - 1
            · rw [if_pos he, if_pos hlt]; rfl
            · rw [if_neg he]; exact c3
          · rw [if_neg hlt]; simp [LeafM.open?]
        unfold LeafM.check
        rw [if_neg (by omega), hbad, if_neg (by simp), hopen, if_neg (by simp), if_neg (by omega)]
  · rw [if_pos hc] at h; exact absurd h hc
end Go.Proofs.Ytnolidjjeknmmaa
