/- LeafKeeps's plain law. -/
import Derived.Test.YtnolidjjeknmmaaLeafRoomM
import Derived.Test.YtnolidjjeknmmaaLeafDrop
import Derived.Test.YtnolidjjeknmmaaLeafEq
namespace Go.Proofs.Ytnolidjjeknmmaa

theorem LeafM.get_ok {ls : List (Bool × ByteArray)} (hc : LeafM.check ls = 0) (k : Nat) :
    LeafM.get ls (k : Int) = match ls[k]? with | some s => if s.1 then (s.2, 0) else (⟨#[]⟩, 6) | none => (⟨#[]⟩, 6) := by
  unfold LeafM.get
  rw [hc, if_neg (by simp), if_neg (by omega), Int.toNat_natCast]
  cases ls[k]? <;> rfl
theorem LeafM.get_put {ls : List (Bool × ByteArray)} {t : ByteArray} (hc : LeafM.check (LeafM.putOut ls t) = 0) :
    LeafM.get (LeafM.putOut ls t) (LeafM.firstFree ls : Nat) = (t, 0) := by
  rw [LeafM.get_ok hc]
  unfold LeafM.putOut
  by_cases h : LeafM.firstFree ls < ls.length
  · rw [if_pos h, List.getElem?_set_self h]; rfl
  · have hl : LeafM.firstFree ls = ls.length := Nat.le_antisymm List.findIdx_le_length (by omega)
    rw [if_neg h, hl]; simp
theorem LeafM.get_old {ls : List (Bool × ByteArray)} (hc : LeafM.check ls = 0) :
    LeafM.get ls (LeafM.firstFree ls : Nat) = (⟨#[]⟩, 6) := by
  rw [LeafM.get_ok hc]
  by_cases h : LeafM.firstFree ls < ls.length
  · rw [List.getElem?_eq_getElem h]
    simp [LeafM.free_at ls h]
  · rw [List.getElem?_eq_none (by omega)]
theorem LeafM.get_other {ls : List (Bool × ByteArray)} {t : ByteArray} (hc : LeafM.check ls = 0) (hc' : LeafM.check (LeafM.putOut ls t) = 0) (k : Int) (hk : k ≠ (LeafM.firstFree ls : Nat)) :
    LeafM.get (LeafM.putOut ls t) k = LeafM.get ls k := by
  by_cases hneg : k < 0
  · simp [LeafM.get, hc, hc', hneg]
  obtain ⟨j, rfl⟩ : ∃ j : Nat, k = (j : Int) := ⟨k.toNat, by omega⟩
  rw [LeafM.get_ok hc, LeafM.get_ok hc']
  have hj : LeafM.firstFree ls ≠ j := by omega
  unfold LeafM.putOut
  by_cases h : LeafM.firstFree ls < ls.length
  · rw [if_pos h, List.getElem?_set_ne hj]
  · have hl : LeafM.firstFree ls = ls.length := Nat.le_antisymm List.findIdx_le_length (by omega)
    rw [if_neg h]
    by_cases hj2 : j < ls.length
    · rw [List.getElem?_append_left hj2]
    · rw [List.getElem?_eq_none (l := ls) (by omega), List.getElem?_eq_none (by simp; omega)]
theorem LeafM.last_used {ls : List (Bool × ByteArray)} (hc : LeafM.check ls = 0) (h : 0 < ls.length) : (ls[ls.length - 1]'(by omega)).1 = true := by
  obtain ⟨_, _, c3, _⟩ := LeafM.check_le hc
  unfold LeafM.open? at c3
  rw [List.getLast?_eq_getElem?, List.getElem?_eq_getElem (by omega)] at c3
  simpa using c3
theorem LeafM.unused_empty {ls : List (Bool × ByteArray)} (hc : LeafM.check ls = 0) (j : Nat) (h : j < ls.length) (hu : ls[j].1 = false) : ls[j] = (false, ⟨#[]⟩) := by
  obtain ⟨_, c2, _, _⟩ := LeafM.check_le hc
  rw [List.any_eq_false] at c2
  have h0 := c2 ls[j] (List.getElem_mem h)
  have h1 : ls[j].2.size = 0 := by simpa [LeafM.bad, hu] using h0
  have h2 : ls[j].2 = ⟨#[]⟩ := ByteArray.ext (Array.eq_empty_of_size_eq_zero h1)
  exact Prod.ext hu h2
theorem LeafM.ends_len {ls ms : List (Bool × ByteArray)} {n : Nat} (hc : LeafM.check ls = 0) (hlen : ls.length ≤ ms.length) (hpre : ∀ j (h : j < ls.length), ms[j]'(by omega) = ls[j]) (hpost : ∀ j (h : j < ms.length), ls.length ≤ j → ms[j].1 = false)
    (he : LeafM.Ends ms n) : n = ls.length := by
  obtain ⟨h1, h2, h3⟩ := he
  by_cases hlt : n < ls.length
  · have a := LeafM.last_used hc (by omega)
    have b := h2 (ls.length - 1) (by omega) (by omega)
    rw [hpre _ (by omega), a] at b
    simp at b
  · rcases h3 with h3 | ⟨h4, h5⟩
    · omega
    · by_cases hg : ls.length < n
      · rw [hpost (n - 1) h4 (by omega)] at h5; simp at h5
      · omega
theorem LeafM.cut_put {ls : List (Bool × ByteArray)} {t : ByteArray} {n : Nat} (hc : LeafM.check ls = 0) (he : LeafM.Ends (LeafM.cut (LeafM.putOut ls t) (LeafM.firstFree ls : Nat)) n) :
    n = ls.length ∧ (LeafM.cut (LeafM.putOut ls t) (LeafM.firstFree ls : Nat)).take n = ls := by
  unfold LeafM.cut LeafM.putOut at he ⊢
  rw [Int.toNat_natCast] at he ⊢
  by_cases h : LeafM.firstFree ls < ls.length
  · rw [if_pos h] at he ⊢
    have e := LeafM.unused_empty hc _ h (LeafM.free_at ls h)
    have e2 : (ls.set (LeafM.firstFree ls) (true, t)).set (LeafM.firstFree ls) (false, { data := #[] }) = ls := by
      rw [List.set_set, ← e, List.set_getElem_self]
    rw [e2] at he ⊢
    have := LeafM.ends_len hc (Nat.le_refl _) (fun _ _ => rfl) (fun j h1 h2 => absurd h1 (by omega)) he
    exact ⟨this, by rw [this, List.take_length]⟩
  · have hl : LeafM.firstFree ls = ls.length := Nat.le_antisymm List.findIdx_le_length (by omega)
    rw [if_neg h, hl] at he ⊢
    have e2 : (ls ++ [(true, t)]).set ls.length (false, { data := #[] }) = ls ++ [(false, { data := #[] })] := by simp
    rw [e2] at he ⊢
    have := LeafM.ends_len hc (by simp) (fun j h => List.getElem_append_left h) (fun j h1 h2 => by
      rw [List.getElem_append_right h2]; simp) he
    exact ⟨this, by rw [this]; simp⟩
end Go.Proofs.Ytnolidjjeknmmaa
