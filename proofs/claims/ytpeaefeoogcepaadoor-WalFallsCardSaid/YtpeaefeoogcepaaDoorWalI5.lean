/- WalFalls, WalBack: the law's own state, in plain Lean. -/
import Derived.Test.YtpeaefeoogcepaaDoorWalI4
namespace Go.Proofs.YtpeaefeoogcepaaDoor
open Go.RowKit Go.Lib
open WalM

namespace WalM
/-- What the law keeps for itself. -/
structure LawS where
  all : List (List UInt8)
  safe : Nat
  reset : List UInt8
  tried : Bool
/-- What may be told. -/
def LawS.Ok (a : LawS) (ts : List (List UInt8)) : Prop := (a.safe ≤ ts.length ∧ ts <+: a.all) ∨ (a.tried = true ∧ ts = [a.reset])
/-- The law's invariant. -/
def InvF (d : DiskM) (l : LogM) (a : LawS) : Prop := Norm d l a.all a.safe ∨ Fell d l a.Ok
section
variable {d : DiskM} {l : LogM} {a : LawS}
theorem InvF.good (h : InvF d l a) : SectM.Good 24 d := h.elim (·.good) (·.good)
theorem InvF.late (h : InvF d l a) : d.late.length ≤ 100 := by
  rcases h with h | h
  · have := h.late; have := h.at_le; omega
  · exact h.late
theorem InvF.fuse (h : InvF d l a) (m : Int) : InvF (SectM.fuse d m) l a := h.elim (fun h => Or.inl (h.fuse m)) fun h => Or.inr (h.fuse m)
theorem InvF.falls (h : InvF d l a) : FallsTo d a.Ok := by
  rcases h with h | h
  · exact h.falls.mono fun ts => Or.inl
  · exact h.falls
theorem InvF.crash (h : InvF d l a) (keep : List Bool) : (∃ d2, openM (SectM.crash d keep) 2 20 = (d2, none, 8)) ∨ (∃ d2 l2 ts, openM (SectM.crash d keep) 2 20 = (d2, some (l2, ts), 0) ∧ a.Ok ts ∧ InvF d2 l2 ⟨ts, ts.length, a.reset, false⟩) := by
  rcases h.falls.open_ h.good keep with h1 | ⟨d2, l2, ts, h1, h2, h3⟩
  · exact Or.inl h1
  · exact Or.inr ⟨d2, l2, ts, h1, h2, Or.inl h3⟩
theorem InvF.sync (h : InvF d l a) {r : DiskM × LogM × Int} (hr : syncM d l = r) : InvF r.1 r.2.1 (if r.2.2 = 0 then { a with safe := a.all.length } else a) := by
  subst hr
  rcases h with h | h
  · rcases h.sync with ⟨h1, h2⟩ | ⟨h1, h2⟩
    · rw [if_pos h1]; exact Or.inl h2
    · rw [if_neg h1]; exact Or.inr ⟨h2.good, h2.fell, h2.late, h2.falls.mono fun ts => Or.inl⟩
  · rw [h.sync, if_neg (by show (10 : Int) ≠ 0; decide)]; exact Or.inr h
theorem InvF.append (h : InvF d l a) (t : List UInt8) {r : DiskM × LogM × Int} (hr : appendM d l t = r) : InvF r.1 r.2.1 (if r.2.2 = 0 then { a with all := a.all ++ [t] } else a) := by
  subst hr
  rcases h with h | h
  · rcases h.append t with ⟨h1, h2, _⟩ | ⟨h1, h2, h3⟩ | ⟨h1, _, h2⟩
    · rw [if_pos h1]; exact Or.inl h2
    · rw [if_neg (by omega), h2, h3]; exact Or.inl h
    · rw [if_neg h1]; exact Or.inr ⟨h2.good, h2.fell, h2.late, h2.falls.mono fun ts => Or.inl⟩
  · rw [h.append, if_neg (by show (10 : Int) ≠ 0; decide)]; exact Or.inr h
theorem InvF.reset (h : InvF d l a) (t : List UInt8) {r : DiskM × LogM × Int} (hr : resetM d l t = r) :
    InvF r.1 r.2.1 (if r.2.2 = 0 then { a with all := [t], safe := 1 } else if r.2.2 = 2 ∨ r.2.2 = 8 ∨ r.2.2 = 10 then a else { a with reset := t, tried := true }) := by
  rcases h with h | h
  · rcases h.reset t hr with ⟨h1, h2⟩ | ⟨h1, h2, h3⟩ | ⟨h1, h2⟩
    · rw [if_pos h1]; exact Or.inl h2
    · rw [if_neg (by omega), if_pos (by omega), h2, h3]; exact Or.inl h
    · rw [if_neg (by omega), if_neg (by omega)]
      exact Or.inr ⟨h2.good, h2.fell, h2.late, h2.falls.mono fun ts h => h.elim Or.inl fun h => Or.inr ⟨rfl, h⟩⟩
  · rw [h.reset] at hr
    subst hr
    rw [if_neg (by show (10 : Int) ≠ 0; decide), if_pos (by show (10 : Int) = 2 ∨ (10 : Int) = 8 ∨ (10 : Int) = 10; omega)]; exact Or.inr h
end
/-- A new disk, and its log. -/
theorem told_blank : Told 20 0 [] (view (SectM.start 24) 2 20) := by
  have hz : ∀ x, view (SectM.start 24) 2 20 x = List.replicate 64 0 := fun x => by
    unfold view
    split
    · rename_i hx
      unfold SectM.start
      dsimp only
      rw [List.getD_eq_getElem?_getD, List.getElem?_replicate, if_pos (by omega)]
      rfl
    · rfl
  refine ⟨trivial, fun e t n hr => ?_, trivial, by decide, by decide, fun x => by rw [hz]; exact old_zero _, fun x => by rw [hz]; exact List.length_replicate, by omega⟩
  exfalso
  obtain ⟨r, h1⟩ := read_headed hr
  rw [hz] at h1
  revert h1
  unfold headed
  rw [show List.replicate 64 (0 : UInt8) = 0 :: List.replicate 63 0 from rfl]
  intro h
  dsimp only at h
  rw [if_pos (by decide)] at h
  cases h
theorem open_new : ∃ d2 l, openM (SectM.start 24) 2 20 = (d2, some (l, []), 0) ∧ Norm d2 l [] 0 ∧ d2.left = -1 ∧ l.ep = 1 := by
  rcases open_norm (SectM.start_good 24) rfl told_blank (a := 0) (by
    show epochOf (SectM.blank.data.toList) = _
    exact epoch_blank) (by omega) (by omega) (by omega) with ⟨h, _⟩ | ⟨d2, l, h1, h2, h3⟩
  · omega
  · exact ⟨d2, l, h1, h2, h3⟩
/-- With no fall all is told. -/
theorem Norm.exact {d : DiskM} {l : LogM} {all : List (List UInt8)} {safe : Nat} (h : Norm d l all safe) : ∃ rs, Told 20 l.ep rs (view d 2 20) ∧ rs.map Rcd.t = all := by
  obtain ⟨old, new, k, O, hj, hs, h1, h2, h3, h4⟩ := h.is
  obtain ⟨hj2, hs2⟩ := hj.flush (Poss' := fun x c => (1 ≤ x ∧ x < 20) ∧ c = view d 2 20 x) hs (fun x c a b hc => hc.2) (fun x a b => ⟨⟨a, b⟩, rfl⟩) (fun x c hc => hc.1)
  obtain ⟨m, m1, m2, m3⟩ := hj2.told (C := view d 2 20) (fun x a b => ⟨⟨a, b⟩, rfl⟩) (view_len h.good (by omega)) (fun x hx => view_zero hx)
  refine ⟨_, m3, ?_⟩
  rw [h3, show m = new.length by omega, List.take_length]
end WalM
end Go.Proofs.YtpeaefeoogcepaaDoor
