/- WalFalls: Open, Sync and a fall, in plain Lean. -/
import Derived.Test.YtpeaefeoogcepaaDoorWalI
namespace Go.Proofs.YtpeaefeoogcepaaDoor
open Go.RowKit Go.Lib
open WalM

namespace WalM
theorem left_write {d : DiskM} {a : Int} {t : ByteArray} (h : SectM.wrote d a t = 0) : (SectM.write d a t).left = if 0 < d.left then d.left - 1 else d.left := by
  unfold SectM.write SectM.burnt
  rw [if_pos h]
  dsimp only
  split <;> rfl
theorem left_flush {d : DiskM} (h : SectM.flushed d = 0) : (SectM.flush d).left = if 0 < d.left then d.left - 1 else d.left := by
  unfold SectM.flush SectM.burnt
  rw [if_pos h]
  dsimp only
  split <;> rfl
theorem fallL_0 (l : LogM) : fallL l 0 = l := by unfold fallL; simp
theorem anchor_fits (e : Int) : (BA (anchor e)).size ≤ 64 := by
  have := anchor_len e
  rw [BA_size]; unfold anchor; rw [List.length_cons]; omega
/-- The epoch is raised. -/
theorem raise_ok {d : DiskM} {l : LogM} (hg : SectM.Good 24 d) (hf : l.frm = 2) (he : l.ep < 1000000) (h : d.left ≠ 0) (h2 : d.left ≠ 1) :
    raiseM d l = (SectM.flush (SectM.write d ((2 : Nat) : Int) (BA (anchor (l.ep + 1)))), { l with ep := l.ep + 1 }, 0) ∧ SectM.wrote d ((2 : Nat) : Int) (BA (anchor (l.ep + 1))) = 0 ∧ SectM.flushed (SectM.write d ((2 : Nat) : Int) (BA (anchor (l.ep + 1)))) = 0 := by
  have e1 : SectM.wrote d ((2 : Nat) : Int) (BA (anchor (l.ep + 1))) = 0 := (wrote_0 hg (by omega) (anchor_fits _)).2 h
  have e2 : SectM.flushed (SectM.write d ((2 : Nat) : Int) (BA (anchor (l.ep + 1)))) = 0 := by
    unfold SectM.flushed SectM.write
    rw [if_pos e1, if_neg]
    show ¬ (SectM.burnt d).left = 0
    unfold SectM.burnt
    split
    · show ¬ d.left - 1 = 0; omega
    · exact h
  refine ⟨?_, e1, e2⟩
  unfold raiseM
  rw [hf, if_neg (by omega), if_neg (by rw [e1]; simp), if_neg (by rw [e2]; simp)]
theorem view_write2 {d : DiskM} (hg : SectM.Good 24 d) {t : ByteArray} (h : SectM.wrote d (2 : Nat) t = 0) : view (SectM.write d (2 : Nat) t) 2 20 = view d 2 20 := by
  funext x
  unfold view
  by_cases hx : 1 ≤ x ∧ x < 20
  · rw [if_pos hx, if_pos hx, seen_write hg (by omega) h, if_neg (by omega)]
  · rw [if_neg hx, if_neg hx]
/-- A log is opened on a disk that stands. -/
theorem open_norm {d : DiskM} (hg : SectM.Good 24 d) (hl : d.left = -1) {E a : Int} {rs : List Rcd} (ht : Told 20 E rs (view d 2 20)) (ha : epochOf (d.seen.getD 2 SectM.blank).data.toList = (a, 0)) (hE : E ≤ a) (h0 : 0 ≤ a) (h1 : a ≤ 1000000) :
    (1000000 ≤ a ∧ ∃ d2, openM d 2 20 = (d2, none, 8)) ∨ (∃ d2 l, openM d 2 20 = (d2, some (l, rs.map Rcd.t), 0) ∧ Norm d2 l (rs.map Rcd.t) rs.length ∧ d2.left = -1 ∧ l.ep = a + 1) := by
  have hx := ht.parse hE (f := 21) (by omega)
  by_cases hm : 1000000 ≤ a
  · left
    refine ⟨hm, d, ?_⟩
    rw [openM_is ha hx (r := (d, ⟨2, 20, a, stop 1 0 rs, rs.length, false⟩, 8)) (by unfold raiseM; rw [if_pos hm]), if_pos (by show (8 : Int) ≠ 0; decide)]
  · right
    obtain ⟨e1, e2, e3⟩ := raise_ok (l := ⟨2, 20, a, stop 1 0 rs, rs.length, false⟩) hg rfl (by show a < 1000000; omega) (by omega) (by omega)
    refine ⟨_, _, (openM_is ha hx e1).trans (if_neg (by simp)), ?_, by rw [left_flush e3, left_write e2, hl]; decide, rfl⟩
    dsimp only at e2 e3 ⊢
    have hv : view (SectM.flush (SectM.write d ((2 : Nat) : Int) (BA (anchor (a + 1))))) 2 20 = view d 2 20 := by
      rw [← view_write2 hg e2]
      unfold view; rw [seen_flush]
    have hmf : ∀ k, may (SectM.flush (SectM.write d ((2 : Nat) : Int) (BA (anchor (a + 1))))) k = [(SectM.write d ((2 : Nat) : Int) (BA (anchor (a + 1)))).seen.getD k SectM.blank] := may_flush e3
    have hj := (ht.more hE).j (by unfold I64; omega)
    refine ⟨SectM.flush_good (SectM.write_good hg _ _), rfl, rfl, rfl, by show 0 ≤ a + 1; omega, by show a + 1 ≤ 1000000; omega, ?_, ?_, ?_, rs, [], 0, view d 2 20, hj.mono ?_, ?_, ?_, ?_, ?_, ?_⟩
    · show (SectM.flush (SectM.write d ((2 : Nat) : Int) (BA (anchor (a + 1))))).late.length ≤ _
      rw [late_flush e3]; exact Nat.zero_le _
    · intro b hb
      have hb2 : b ∈ may (SectM.flush (SectM.write d ((2 : Nat) : Int) (BA (anchor (a + 1))))) 2 := hb
      rw [hmf, List.mem_singleton, seen_write hg (by omega) e2, if_pos rfl] at hb2
      rw [hb2, pad_is]
      exact epoch_anchor (by omega) (by omega)
    · show (SectM.flush (SectM.write d ((2 : Nat) : Int) (BA (anchor (a + 1))))).seen.getD 2 SectM.blank ∈ may (SectM.flush (SectM.write d ((2 : Nat) : Int) (BA (anchor (a + 1))))) 2
      rw [hmf, seen_flush]; exact List.mem_singleton_self _
    · intro x c hc
      obtain ⟨h3, h4, b, hb, rfl⟩ := hc
      have hb2 : b ∈ may (SectM.flush (SectM.write d ((2 : Nat) : Int) (BA (anchor (a + 1))))) (2 + x) := hb
      rw [hmf, List.mem_singleton, seen_write hg (by omega) e2, if_neg (by omega)] at hb2
      rw [hb2]; unfold view; rw [if_pos ⟨h3, h4⟩]
    · show Seen 20 rs [] [] (Poss (SectM.flush (SectM.write d ((2 : Nat) : Int) (BA (anchor (a + 1))))) 2 20) (view (SectM.flush (SectM.write d ((2 : Nat) : Int) (BA (anchor (a + 1))))) 2 20)
      refine ⟨fun j s hj => ?_, fun x h3 h4 => view_poss h3 h4 ?_, fun x => by rw [hv]; exact ht.len x, fun x hx => view_zero hx⟩
      · simp [flat] at hj
      · rw [hmf, seen_flush]; exact List.mem_singleton_self _
    · simp
    · simp
    · simp
    · show rs.length ≤ rs.length + 0; omega
/-- The log fell. -/
structure Fell (d : DiskM) (l : LogM) (P : List (List UInt8) → Prop) : Prop where
  good : SectM.Good 24 d
  fell : l.fell = true
  late : d.late.length ≤ 100
  falls : FallsTo d P
theorem Norm.at_le {d : DiskM} {l : LogM} {all : List (List UInt8)} {safe : Nat} (h : Norm d l all safe) : l.at_ ≤ 20 ∧ 1 ≤ l.at_ := by
  obtain ⟨old, new, k, O, hj, _, h1, _⟩ := h.is
  have := hj.fit
  have := stop_le 1 0 (old ++ new)
  omega
theorem Norm.sync {d : DiskM} {l : LogM} {all : List (List UInt8)} {safe : Nat} (h : Norm d l all safe) :
    ((syncM d l).2.2 = 0 ∧ Norm (syncM d l).1 (syncM d l).2.1 all all.length) ∨ ((syncM d l).2.2 ≠ 0 ∧ Fell (syncM d l).1 (syncM d l).2.1 fun ts => safe ≤ ts.length ∧ ts <+: all) := by
  have e : syncM d l = (SectM.flush d, fallL l (SectM.flushed d), SectM.flushed d) := by unfold syncM; rw [if_neg (by rw [h.fell]; simp)]
  rw [e]
  dsimp only
  by_cases h0 : SectM.flushed d = 0
  · rw [h0, fallL_0]
    exact Or.inl ⟨rfl, h.flush h0⟩
  · right
    rw [flush_bad h0]
    have := h.late
    have := h.at_le
    exact ⟨h0, h.good, by unfold fallL; simp [h0], by omega, h.falls⟩
theorem Fell.sync {d : DiskM} {l : LogM} {P : List (List UInt8) → Prop} (h : Fell d l P) : syncM d l = (d, l, 10) := by unfold syncM; rw [if_pos h.fell]
theorem Fell.append {d : DiskM} {l : LogM} {P : List (List UInt8) → Prop} (h : Fell d l P) (t : List UInt8) : appendM d l t = (d, l, 10) := by unfold appendM; rw [if_pos h.fell]
theorem Fell.reset {d : DiskM} {l : LogM} {P : List (List UInt8) → Prop} (h : Fell d l P) (t : List UInt8) : resetM d l t = (d, l, 10) := by unfold resetM; rw [if_pos h.fell]
theorem Fell.fuse {d : DiskM} {l : LogM} {P : List (List UInt8) → Prop} (h : Fell d l P) (m : Int) : Fell (SectM.fuse d m) l P := ⟨SectM.fuse_good h.good m, h.fell, h.late, h.falls⟩
/-- Open, behind a fall. -/
theorem FallsTo.open_ {d : DiskM} {P : List (List UInt8) → Prop} (h : FallsTo d P) (hg : SectM.Good 24 d) (keep : List Bool) :
    (∃ d2, openM (SectM.crash d keep) 2 20 = (d2, none, 8)) ∨ (∃ d2 l ts, openM (SectM.crash d keep) 2 20 = (d2, some (l, ts), 0) ∧ P ts ∧ Norm d2 l ts ts.length) := by
  obtain ⟨E, h0, h1, ha, hC⟩ := h
  have hg2 := SectM.crash_good hg keep
  obtain ⟨a, ha1, ha2, ha3⟩ := ha _ (crash_may hg keep (k := 2) (by omega))
  obtain ⟨rs, ht, hp⟩ := hC (view (SectM.crash d keep) 2 20) (fun x h3 h4 => by
    refine ⟨h3, h4, _, crash_may hg keep (k := 2 + x) (by omega), ?_⟩
    unfold view; rw [if_pos ⟨h3, h4⟩]) (view_len hg2 (by omega)) (fun x hx => view_zero hx)
  rcases open_norm hg2 rfl ht ha1 ha2 (by omega) ha3 with h3 | ⟨d2, l, h3, h4, _⟩
  · exact Or.inl h3.2
  · exact Or.inr ⟨d2, l, _, h3, hp, by rw [List.length_map]; exact h4⟩
end WalM
end Go.Proofs.YtpeaefeoogcepaaDoor
