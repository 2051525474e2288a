/- WalFalls: a fallen log stays small. -/
import Derived.Test.YtpeaefeoogcepaaDoorWalI5
namespace Go.Proofs.YtpeaefeoogcepaaDoor
open Go.RowKit Go.Lib
open WalM

namespace WalM
structure Small (l : LogM) : Prop where
  e0 : 0 ≤ l.ep
  e1 : l.ep ≤ 1000001
  fit : l.frm + l.size ≤ 24
  at_ : l.at_ ≤ 1000
  seq : l.seq ≤ 1000
theorem Small.fall {l : LogM} (h : Small l) (e : Int) : Small (fallL l e) := ⟨h.e0, h.e1, h.fit, h.at_, h.seq⟩
theorem Norm.small {d : DiskM} {l : LogM} {all : List (List UInt8)} {safe : Nat} (h : Norm d l all safe) : Small l := by
  have h1 := h.at_le
  have h2 := h.e0
  have h3 := h.e1
  have h4 := h.frm
  have h5 := h.size
  obtain ⟨old, new, k, O, hj, _, h6, h7, _⟩ := h.is
  have := hj.fit
  have := stop_le 1 0 (old ++ new)
  exact ⟨h2, by omega, by omega, by omega, by omega⟩
theorem Small.raise {d : DiskM} {l : LogM} (h : Small l) : Small (raiseM d l).2.1 := by
  unfold raiseM
  split
  · exact h
  · split
    · exact h.fall _
    · split
      · exact h.fall _
      · have := h.e0
        exact ⟨by show 0 ≤ l.ep + 1; omega, by show l.ep + 1 ≤ 1000001; omega, h.fit, h.at_, h.seq⟩
theorem Small.sync {d : DiskM} {l : LogM} (h : Small l) : Small (syncM d l).2.1 := by
  unfold syncM
  split
  · exact h
  · exact h.fall _
theorem Small.reset {d : DiskM} {l : LogM} (h : Small l) (t : List UInt8) : Small (resetM d l t).2.1 := by
  unfold resetM
  have hr := h.raise (d := d)
  split
  · exact h
  · split
    · exact h
    · split
      · exact h
      · split
        · exact hr
        · split
          · exact hr.fall _
          · split
            · exact hr.fall _
            · exact ⟨hr.e0, hr.e1, hr.fit, by show 2 ≤ 1000; omega, by show 1 ≤ 1000; omega⟩
theorem Small.append {d : DiskM} {l : LogM} (h : Small l) (t : List UInt8) (he : (appendM d l t).2.2 ≠ 0) : Small (appendM d l t).2.1 := by
  revert he
  unfold appendM
  split
  · exact fun _ => h
  · split
    · exact fun _ => h
    · split
      · exact fun _ => h
      · split
        · exact fun _ => h.fall _
        · intro he; exact absurd rfl he
theorem Norm.few {d : DiskM} {l : LogM} {all : List (List UInt8)} {safe : Nat} (h : Norm d l all safe) : all.length ≤ 20 := by
  have h1 := h.at_le
  obtain ⟨old, new, k, O, hj, _, h6, h7, h8, _⟩ := h.is
  have := hj.fit
  have := stop_le 1 0 (old ++ new)
  rw [h8, List.length_map]; omega
/-- The law's invariant, with bounds. -/
structure InvG (d : DiskM) (l : LogM) (a : LawS) : Prop where
  inv : InvF d l a
  small : Small l
  few : a.all.length ≤ 20
section
variable {d : DiskM} {l : LogM} {a : LawS}
theorem InvG.fuse (h : InvG d l a) (m : Int) : InvG (SectM.fuse d m) l a := ⟨h.inv.fuse m, h.small, h.few⟩
theorem InvG.crash (h : InvG d l a) (keep : List Bool) : (∃ d2, openM (SectM.crash d keep) 2 20 = (d2, none, 8)) ∨ (∃ d2 l2 ts, openM (SectM.crash d keep) 2 20 = (d2, some (l2, ts), 0) ∧ a.Ok ts ∧ ts.length ≤ 20 ∧ InvG d2 l2 ⟨ts, ts.length, a.reset, false⟩) := by
  rcases h.inv.falls.open_ h.inv.good keep with h1 | ⟨d2, l2, ts, h1, h2, h3⟩
  · exact Or.inl h1
  · exact Or.inr ⟨d2, l2, ts, h1, h2, h3.few, Or.inl h3, h3.small, h3.few⟩
theorem InvG.len (h : InvG d l a) : l.frm + l.size ≤ 24 ∧ I64 l.ep := by
  have := h.small.fit; have := h.small.e0; have := h.small.e1
  exact ⟨by omega, by unfold I64; omega⟩
theorem InvG.sync (h : InvG d l a) : InvG (syncM d l).1 (syncM d l).2.1 (if (syncM d l).2.2 = 0 then { a with safe := a.all.length } else a) := ⟨h.inv.sync rfl, h.small.sync, by split <;> exact h.few⟩
theorem InvG.append (h : InvG d l a) (t : List UInt8) : InvG (appendM d l t).1 (appendM d l t).2.1 (if (appendM d l t).2.2 = 0 then { a with all := a.all ++ [t] } else a) := by
  have hi := h.inv.append t rfl
  by_cases he : (appendM d l t).2.2 = 0
  · rcases h.inv with h1 | h1
    · rcases h1.append t with ⟨_, h2, _⟩ | ⟨h2, _⟩ | ⟨h2, _⟩
      · exact ⟨hi, h2.small, by rw [if_pos he]; exact h2.few⟩
      · omega
      · exact absurd he h2
    · rw [h1.append] at he
      exact absurd he (by show ¬ (10 : Int) = 0; decide)
  · exact ⟨hi, h.small.append t he, by rw [if_neg he]; exact h.few⟩
theorem InvG.reset (h : InvG d l a) (t : List UInt8) :
    InvG (resetM d l t).1 (resetM d l t).2.1 (if (resetM d l t).2.2 = 0 then { a with all := [t], safe := 1 } else if (resetM d l t).2.2 = 2 ∨ (resetM d l t).2.2 = 8 ∨ (resetM d l t).2.2 = 10 then a else { a with reset := t, tried := true }) := ⟨h.inv.reset t rfl, h.small.reset t, by
  split
  · show 1 ≤ 20; omega
  · split <;> exact h.few⟩
end
theorem BA_inj {a b : List UInt8} (h : BA a = BA b) : a = b := by
  rw [← BA_list a, ← BA_list b, h]
theorem BA_map_prefix {a b : List (List UInt8)} : (a.map BA <+: b.map BA) ↔ a <+: b := by
  constructor
  · intro h
    obtain ⟨c, hc⟩ := h
    have h1 : a.map BA = (b.take a.length).map BA := by
      rw [List.map_take, ← hc, List.take_append_of_le_length (by simp), List.take_of_length_le (by simp)]
    have h2 : a = b.take a.length := List.map_inj_right (f := BA) (fun _ _ => BA_inj) |>.1 h1
    rw [h2]
    exact List.take_prefix _ _
  · exact fun h => h.map BA
theorem BA_map_eq {a b : List (List UInt8)} : a.map BA = b.map BA ↔ a = b := List.map_inj_right (f := BA) (fun _ _ => BA_inj)
end WalM
end Go.Proofs.YtpeaefeoogcepaaDoor
