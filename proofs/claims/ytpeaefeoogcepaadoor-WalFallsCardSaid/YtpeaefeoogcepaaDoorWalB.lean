/- WalBack, in plain Lean. -/
import Derived.Test.YtpeaefeoogcepaaDoorWalI5
namespace Go.Proofs.YtpeaefeoogcepaaDoor
open Go.RowKit Go.Lib
open WalM

namespace WalM
/-- A log on a disk that never falls. -/
structure InvB (d : DiskM) (l : LogM) (all : List (List UInt8)) : Prop where
  norm : Norm d l all 0
  left : d.left = -1
  ep : l.ep = 1
theorem InvB.append {d : DiskM} {l : LogM} {all : List (List UInt8)} (h : InvB d l all) (t : List UInt8) {r : DiskM × LogM × Int} (hr : appendM d l t = r) :
    (r.2.2 = 0 ∧ InvB r.1 r.2.1 (all ++ [t]) ∧ l.at_ < r.2.1.at_) ∨ ((r.2.2 = 2 ∨ r.2.2 = 8) ∧ InvB r.1 r.2.1 all ∧ r.2.1.at_ = l.at_) := by
  have hat := h.norm.at_le
  subst hr
  rcases h.norm.append t with ⟨h1, h2, h3⟩ | ⟨h1, h2, h3⟩ | ⟨_, h2, _⟩
  · refine Or.inl ⟨h1, ⟨h2, ?_, ?_⟩, h3⟩
    revert h1
    unfold appendM
    rw [if_neg (by rw [h.norm.fell]; simp)]
    split
    · intro h; cases h
    · split
      · intro h; cases h
      · rename_i hf
        rw [h.norm.size] at hf
        have hw := (writes_left (sectors l.ep l.seq t) (l.frm + l.at_) d h.norm.good h.left (by rw [h.norm.frm]; omega) (fun s hs => (sectors_form hs).1))
        rw [if_neg (by rw [hw.1]; simp)]
        intro _
        exact hw.2
    · revert h1
      unfold appendM
      rw [if_neg (by rw [h.norm.fell]; simp)]
      split
      · intro h; cases h
      · split
        · intro h; cases h
        · split
          · rename_i h5; intro h6; exact absurd h6 h5
          · intro _; exact h.ep
  · exact Or.inr ⟨h1, by rw [h2, h3]; exact h, by rw [h3]⟩
  · exact absurd h.left h2
/-- The first text fits. -/
theorem Norm.first {d : DiskM} {l : LogM} (h : Norm d l [] 0) (hl : d.left = -1) : (appendM d l [97]).2.2 = 0 := by
  rcases h.append [97] with ⟨h1, _⟩ | ⟨h1, _⟩ | ⟨_, h2, _⟩
  · exact h1
  · exfalso
    obtain ⟨old, new, k, O, hj, hs, e1, e2, e3, e4⟩ := h.is
    have hnil : old ++ new = [] := List.map_eq_nil_iff.1 e3.symm
    rw [hnil] at e1 e2
    have hc : (sectors l.ep l.seq [97]).length ≤ 6 := Nat.le_trans (cuts_len_le _ _ _ _ _) (by rw [body_len]; decide)
    have hw := writes_left (sectors l.ep l.seq [97]) (l.frm + l.at_) d h.good hl (by rw [h.frm, e1]; show 2 + 1 + _ ≤ 24; omega) (fun s hs => (sectors_form hs).1)
    revert h1
    unfold appendM
    rw [if_neg (by rw [h.fell]; simp), if_neg (by decide), if_neg (by rw [h.size, e1]; show ¬ 20 < 1 + _; omega), if_neg (by rw [hw.1]; simp)]
    intro h1
    rcases h1 with h1 | h1 <;> cases h1
  · exact absurd hl h2
/-- What is told at the end. -/
theorem InvB.told {d : DiskM} {l : LogM} {all : List (List UInt8)} (h : InvB d l all) :
    ∃ d2 l2, openM d 2 20 = (d2, some (l2, all), 0) := by
  obtain ⟨rs, h1, h2⟩ := h.norm.exact
  rcases open_norm h.norm.good h.left h1 (h.norm.anc _ h.norm.see) (Int.le_refl _) h.norm.e0 h.norm.e1 with ⟨h3, _⟩ | ⟨d2, l2, h3, _⟩
  · have := h.ep; omega
  · exact ⟨d2, l2, by rw [← h2]; exact h3⟩
end WalM
end Go.Proofs.YtpeaefeoogcepaaDoor
