/- What WalFalls keeps of a log, in plain Lean. -/
import Derived.Test.YtpeaefeoogcepaaDoorWalP
namespace Go.Proofs.YtpeaefeoogcepaaDoor
open Go.RowKit Go.Lib
open WalM

namespace WalM
theorem mem_dropWhile {α : Type} {p : α → Bool} {b : α} (hb : p b = false) : ∀ {l : List α}, b ∈ l → b ∈ l.dropWhile p
  | a :: l, h => by
    rw [List.dropWhile_cons]
    by_cases ha : p a = true
    · rw [if_pos ha]
      rcases List.mem_cons.1 h with rfl | h
      · rw [hb] at ha; cases ha
      · exact mem_dropWhile hb h
    · rw [if_neg ha]; exact h
theorem trim_some {l : List UInt8} {b : UInt8} (hb : b ≠ 0) (h : b ∈ l) : ¬ trimB l 0 = [] := by
  intro e
  have h1 : b ∈ trimB l 0 := by
    unfold trimB trimLeftB trimRightB
    have hb2 : (b == 0) = false := by simpa using hb
    exact mem_dropWhile (p := fun x => x == 0) (b := b) hb2 (List.mem_reverse.2 (mem_dropWhile (p := fun x => x == 0) (b := b) hb2 (List.mem_reverse.2 h)))
  rw [e] at h1; cases h1
/-- An anchor is read back. -/
theorem epoch_anchor {e : Int} (h0 : 0 ≤ e) (h1 : e ≤ 1000000) : epochOf (pad (anchor e)) = (e, 0) := by
  have hi : I64 e := by unfold I64; omega
  have e1 : (pad (anchor e)).drop 1 = CodeM.putNat (CodeM.zig e) ++ (FoldSum.tail (CodeM.putNat (CodeM.zig e)) ++ List.replicate (64 - (anchor e).length) 0) := by
    unfold pad anchor fold
    simp [List.append_assoc]
  have e2 : CodeM.getNat ((pad (anchor e)).drop 1) = (CodeM.zig e, (CodeM.putNat (CodeM.zig e)).length, 0) := by
    rw [e1]; exact getInt_put hi _
  have e3 : ancN (pad (anchor e)) = e := by
    unfold ancN
    rw [e2]
    exact CodeM.zag_zig e
  unfold epochOf
  rw [if_neg, if_neg, e3]
  · rintro (h | h | h | h)
    · rw [e2] at h; exact h rfl
    · rw [e3] at h; omega
    · rw [e3] at h; omega
    · rw [e3] at h; exact h rfl
  · exact trim_some (b := 3) (by decide) (by unfold pad anchor; simp)
theorem epoch_blank : epochOf (List.replicate 64 0) = (0, 0) := by
  unfold epochOf
  rw [if_pos (by decide)]
/-- Behind whatever fall a beginning is told. -/
def FallsTo (d : DiskM) (P : List (List UInt8) → Prop) : Prop :=
  ∃ E : Int, 0 ≤ E ∧ E ≤ 1000000 ∧ (∀ b ∈ may d 2, ∃ a, epochOf b.data.toList = (a, 0) ∧ E ≤ a ∧ a ≤ 1000000) ∧
    ∀ C : Nat → List UInt8, (∀ x, 1 ≤ x → x < 20 → Poss d 2 20 x (C x)) → (∀ x, (C x).length = 64) → (∀ x, ¬ (1 ≤ x ∧ x < 20) → C x = List.replicate 64 0) → ∃ rs, Told 20 E rs C ∧ P (rs.map Rcd.t)
theorem FallsTo.mono {d : DiskM} {P Q : List (List UInt8) → Prop} (h : FallsTo d P) (hq : ∀ ts, P ts → Q ts) : FallsTo d Q := by
  obtain ⟨E, a, b, c, f⟩ := h
  exact ⟨E, a, b, c, fun C h1 h2 h3 => by obtain ⟨rs, h4, h5⟩ := f C h1 h2 h3; exact ⟨rs, h4, hq _ h5⟩⟩
/-- A log that stands. -/
structure Norm (d : DiskM) (l : LogM) (all : List (List UInt8)) (safe : Nat) : Prop where
  good : SectM.Good 24 d
  frm : l.frm = 2
  size : l.size = 20
  fell : l.fell = false
  e0 : 0 ≤ l.ep
  e1 : l.ep ≤ 1000000
  late : d.late.length ≤ l.at_
  anc : ∀ b ∈ may d 2, epochOf b.data.toList = (l.ep, 0)
  see : d.seen.getD 2 SectM.blank ∈ may d 2
  is : ∃ old new k O, J 20 l.ep old new [] k (Poss d 2 20) O ∧ Seen 20 old new [] (Poss d 2 20) (view d 2 20) ∧ l.at_ = stop 1 0 (old ++ new) ∧ l.seq = (old ++ new).length ∧ all = (old ++ new).map Rcd.t ∧ safe ≤ old.length + k
theorem Norm.falls {d : DiskM} {l : LogM} {all : List (List UInt8)} {safe : Nat} (h : Norm d l all safe) : FallsTo d fun ts => safe ≤ ts.length ∧ ts <+: all := by
  obtain ⟨old, new, k, O, hj, hs, _, _, rfl, h3⟩ := h.is
  refine ⟨l.ep, h.e0, h.e1, fun b hb => ⟨l.ep, h.anc b hb, Int.le_refl _, h.e1⟩, fun C h4 h5 h6 => ?_⟩
  obtain ⟨m, h7, h8, h9⟩ := hj.told h4 h5 h6
  refine ⟨_, h9, ?_, ?_⟩
  · rw [List.length_map, List.length_append, List.length_take]; omega
  · rw [List.map_append, List.map_append, List.map_take]
    exact (List.prefix_append_right_inj _).2 (List.take_prefix _ _)
theorem FallsTo.fuse {d : DiskM} {P : List (List UInt8) → Prop} (h : FallsTo d P) (m : Int) : FallsTo (SectM.fuse d m) P := h
theorem Norm.fuse {d : DiskM} {l : LogM} {all : List (List UInt8)} {safe : Nat} (h : Norm d l all safe) (m : Int) : Norm (SectM.fuse d m) l all safe :=
  ⟨SectM.fuse_good h.good m, h.frm, h.size, h.fell, h.e0, h.e1, h.late, h.anc, h.see, h.is⟩
/-- A flush makes all safe. -/
theorem Norm.flush {d : DiskM} {l : LogM} {all : List (List UInt8)} {safe : Nat} (h : Norm d l all safe) (h0 : SectM.flushed d = 0) : Norm (SectM.flush d) l all all.length := by
  obtain ⟨old, new, k, O, hj, hs, h1, h2, h3, h4⟩ := h.is
  have hv : view (SectM.flush d) 2 20 = view d 2 20 := by unfold view; rw [seen_flush]
  obtain ⟨hj2, hs2⟩ := hj.flush (Poss' := Poss (SectM.flush d) 2 20) hs (fun x c a b hc => by
    obtain ⟨_, _, b', hb, rfl⟩ := hc
    rw [may_flush h0, List.mem_singleton] at hb
    rw [hb]; unfold view; rw [if_pos ⟨a, b⟩]) (fun x a b => ⟨a, b, _, by rw [may_flush h0]; exact List.mem_singleton_self _, by unfold view; rw [if_pos ⟨a, b⟩]⟩) (fun x c hc => ⟨hc.1, hc.2.1⟩)
  refine ⟨SectM.flush_good h.good, h.frm, h.size, h.fell, h.e0, h.e1, by rw [late_flush h0]; exact Nat.zero_le _, fun b hb => ?_, by rw [may_flush h0, seen_flush]; exact List.mem_singleton_self _, old, new, new.length, O, hj2, by rw [hv]; exact hs2, h1, h2, h3, by rw [h3, List.length_map, List.length_append]; exact Nat.le_refl _⟩
  rw [may_flush h0, List.mem_singleton] at hb
  rw [hb]; exact h.anc _ h.see
end WalM
end Go.Proofs.YtpeaefeoogcepaaDoor
