/- What a disk's sectors may hold behind a fall, in plain Lean. -/
import Derived.Test.YtpeaefeoogcepaaDoorWalW8
namespace Go.Proofs.YtpeaefeoogcepaaDoor
open Go.RowKit Go.Lib
open WalM

namespace WalM
/-- What a sector may hold behind a fall. -/
def may (d : DiskM) (k : Nat) : List ByteArray := d.safe.getD k SectM.blank :: (d.late.filter fun x => x.1 == k).map Prod.snd
section
variable {d : DiskM} {n : Nat}
theorem may_fuse (d : DiskM) (m : Int) (k : Nat) : may (SectM.fuse d m) k = may d k := rfl
theorem wrote_dn {d : DiskM} (hg : SectM.Good n d) {a : Nat} (ha : a < n) {t : ByteArray} (ht : t.size ≤ 64) : SectM.wrote d a t = if d.left = 0 then 13 else 0 := by
  unfold SectM.wrote
  rw [if_neg (by have := hg.safe; omega), if_neg (by omega)]
theorem wrote_0 {d : DiskM} (hg : SectM.Good n d) {a : Nat} (ha : a < n) {t : ByteArray} (ht : t.size ≤ 64) : SectM.wrote d a t = 0 ↔ d.left ≠ 0 := by
  rw [wrote_dn hg ha ht]
  by_cases h : d.left = 0 <;> simp [h]
theorem write_bad {d : DiskM} {a : Nat} {t : ByteArray} (h : SectM.wrote d a t ≠ 0) : SectM.write d a t = d := by
  unfold SectM.write; rw [if_neg h]
theorem flush_bad {d : DiskM} (h : SectM.flushed d ≠ 0) : SectM.flush d = d := by
  unfold SectM.flush; rw [if_neg h]
theorem may_write {d : DiskM} {a : Nat} {t : ByteArray} (h : SectM.wrote d a t = 0) (k : Nat) : may (SectM.write d a t) k = if k = a then may d k ++ [SectM.pad t] else may d k := by
  obtain ⟨e1, e2, e3⟩ := SectM.burnt_eqs d
  unfold may SectM.write
  rw [if_pos h]
  simp only [e1, Int.toNat_natCast, List.filter_append, List.map_append]
  by_cases hk : k = a
  · subst hk; simp
  · rw [if_neg hk]
    have : (a == k) = false := by simpa using fun e => hk e.symm
    simp [this]
theorem seen_write {d : DiskM} (hg : SectM.Good n d) {a : Nat} (ha : a < n) {t : ByteArray} (h : SectM.wrote d a t = 0) (k : Nat) : (SectM.write d a t).seen.getD k SectM.blank = if k = a then SectM.pad t else d.seen.getD k SectM.blank := by
  obtain ⟨e1, e2, e3⟩ := SectM.burnt_eqs d
  unfold SectM.write
  rw [if_pos h]
  dsimp only
  rw [Int.toNat_natCast, List.getD_eq_getElem?_getD, List.getElem?_set, List.getD_eq_getElem?_getD]
  by_cases hk : k = a
  · subst hk
    rw [if_pos rfl, if_pos rfl, if_pos (by rw [hg.seen]; exact ha)]
    rfl
  · rw [if_neg (fun e => hk e.symm), if_neg hk]
theorem late_write {d : DiskM} {a : Nat} {t : ByteArray} (h : SectM.wrote d a t = 0) : (SectM.write d a t).late.length = d.late.length + 1 := by
  unfold SectM.write
  rw [if_pos h]
  simp
theorem may_flush {d : DiskM} (h : SectM.flushed d = 0) (k : Nat) : may (SectM.flush d) k = [d.seen.getD k SectM.blank] := by
  unfold may SectM.flush
  rw [if_pos h]
  rfl
theorem seen_flush (d : DiskM) : (SectM.flush d).seen = d.seen := by
  obtain ⟨e1, e2, e3⟩ := SectM.burnt_eqs d
  unfold SectM.flush
  split
  · exact e2
  · rfl
theorem late_flush {d : DiskM} (h : SectM.flushed d = 0) : (SectM.flush d).late = [] := by
  unfold SectM.flush
  rw [if_pos h]
theorem crash_may {d : DiskM} (hg : SectM.Good n d) (keep : List Bool) {k : Nat} (hk : k < n) : (SectM.crash d keep).seen.getD k SectM.blank ∈ may d k := by
  have hl : (SectM.keepOn keep 0 d.late d.safe).length = n := (SectM.keepOn_len keep _ _ _).trans hg.safe
  show (SectM.keepOn keep 0 d.late d.safe).getD k SectM.blank ∈ may d k
  rw [List.getD_eq_getElem?_getD, List.getElem?_eq_getElem (by omega)]
  refine SectM.keepOn_mem keep (may d) d.late 0 d.safe (fun x hx => ?_) (fun j hj => ?_) k (by omega)
  · unfold may
    exact List.mem_cons_of_mem _ (List.mem_map.2 ⟨x, List.mem_filter.2 ⟨hx, by simp⟩, rfl⟩)
  · unfold may
    rw [List.getD_eq_getElem?_getD, List.getElem?_eq_getElem hj]
    exact List.mem_cons_self
theorem may_crash (d : DiskM) (keep : List Bool) (k : Nat) : may (SectM.crash d keep) k = [(SectM.crash d keep).seen.getD k SectM.blank] := rfl
/-- The sectors of a log's region. -/
def Poss (d : DiskM) (frm size x : Nat) (c : List UInt8) : Prop := 1 ≤ x ∧ x < size ∧ ∃ b ∈ may d (frm + x), c = b.data.toList
theorem view_poss {d : DiskM} {frm size x : Nat} (h1 : 1 ≤ x) (h2 : x < size) (h : d.seen.getD (frm + x) SectM.blank ∈ may d (frm + x)) : Poss d frm size x (view d frm size x) := by
  refine ⟨h1, h2, _, h, ?_⟩
  unfold view
  rw [if_pos ⟨h1, h2⟩]
theorem view_zero {d : DiskM} {frm size x : Nat} (h : ¬ (1 ≤ x ∧ x < size)) : view d frm size x = List.replicate 64 0 := by
  unfold view
  rw [if_neg h]
theorem pad_is {s : List UInt8} : (SectM.pad (BA s)).data.toList = pad s := by
  unfold SectM.pad pad
  rw [BA_size]
  rfl
end
end WalM
end Go.Proofs.YtpeaefeoogcepaaDoor
