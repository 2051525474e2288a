/- Sectors, in plain Lean: what the disk does, and SectSafe. -/
import Derived.Test.YtpeaefeoogcepaaDoorHeap
namespace Go.Proofs.YtpeaefeoogcepaaDoor

structure DiskM where
  safe : List ByteArray
  seen : List ByteArray
  late : List (Nat × ByteArray)
  left : Int
def SectM.zeros (c : Nat) : ByteArray := ⟨(List.replicate c (0 : UInt8)).toArray⟩
def SectM.pad (t : ByteArray) : ByteArray := ⟨(t.data.toList ++ List.replicate (64 - t.size) 0).toArray⟩
def SectM.blank : ByteArray := SectM.zeros 64
def SectM.start (n : Nat) : DiskM := ⟨List.replicate n SectM.blank, List.replicate n SectM.blank, [], -1⟩
def SectM.burnt (d : DiskM) : DiskM := if 0 < d.left then { d with left := d.left - 1 } else d
/-- What a write answers. -/
def SectM.wrote (d : DiskM) (at_ : Int) (t : ByteArray) : Int :=
  if at_ < 0 ∨ (d.safe.length : Int) ≤ at_ then 1 else if 64 < t.size then 2 else if d.left = 0 then 13 else 0
def SectM.write (d : DiskM) (at_ : Int) (t : ByteArray) : DiskM :=
  if SectM.wrote d at_ t = 0 then { SectM.burnt d with seen := d.seen.set at_.toNat (SectM.pad t), late := d.late ++ [(at_.toNat, SectM.pad t)] } else d
def SectM.flushed (d : DiskM) : Int := if d.left = 0 then 13 else 0
def SectM.flush (d : DiskM) : DiskM := if SectM.flushed d = 0 then { SectM.burnt d with safe := d.seen, late := [] } else d
def SectM.fuse (d : DiskM) (n : Int) : DiskM := { d with left := if n < -1 then -1 else n }
def SectM.keepOn (keep : List Bool) : Nat → List (Nat × ByteArray) → List ByteArray → List ByteArray
  | _, [], s => s
  | i, (a, t) :: r, s => SectM.keepOn keep (i + 1) r (if keep.getD i false = true then s.set a t else s)
def SectM.crash (d : DiskM) (keep : List Bool) : DiskM := { safe := SectM.keepOn keep 0 d.late d.safe, seen := SectM.keepOn keep 0 d.late d.safe, late := [], left := -1 }
/-- What stands of a disk of n sectors. -/
structure SectM.Good (n : Nat) (d : DiskM) : Prop where
  safe : d.safe.length = n
  seen : d.seen.length = n
  late : ∀ x ∈ d.late, x.1 < n
  sz : (∀ s ∈ d.safe, s.size = 64) ∧ (∀ s ∈ d.seen, s.size = 64) ∧ ∀ x ∈ d.late, x.2.size = 64
  left : -1 ≤ d.left
theorem SectM.pad_size {t : ByteArray} (h : t.size ≤ 64) : (SectM.pad t).size = 64 := by
  show (t.data.toList ++ List.replicate (64 - t.size) 0).length = 64
  rw [List.length_append, List.length_replicate]
  show t.size + _ = _
  omega
theorem SectM.start_good (n : Nat) : SectM.Good n (SectM.start n) := by
  refine ⟨by simp [SectM.start], by simp [SectM.start], by simp [SectM.start], ⟨?_, ?_, by simp [SectM.start]⟩, by simp [SectM.start]⟩ <;>
  · intro s hs
    have := List.eq_of_mem_replicate hs
    subst this; rfl
theorem SectM.burnt_eqs (d : DiskM) : (SectM.burnt d).safe = d.safe ∧ (SectM.burnt d).seen = d.seen ∧ (SectM.burnt d).late = d.late := by
  unfold SectM.burnt; split <;> exact ⟨rfl, rfl, rfl⟩
theorem SectM.burnt_left {d : DiskM} (h : -1 ≤ d.left) : -1 ≤ (SectM.burnt d).left := by
  unfold SectM.burnt; split
  · show -1 ≤ d.left - 1; omega
  · exact h
theorem SectM.write_good {n : Nat} {d : DiskM} (h : SectM.Good n d) (at_ : Int) (t : ByteArray) : SectM.Good n (SectM.write d at_ t) := by
  unfold SectM.write
  split
  · rename_i h0
    unfold SectM.wrote at h0
    obtain ⟨e1, e2, e3⟩ := SectM.burnt_eqs d
    split at h0
    · cases h0
    · split at h0
      · cases h0
      · rename_i h1 h2
        have hp : (SectM.pad t).size = 64 := SectM.pad_size (by omega)
        have h3 := h.safe
        refine ⟨by rw [e1]; exact h.safe, by simp only [List.length_set]; exact h.seen, fun x hx => ?_, ⟨by rw [e1]; exact h.sz.1, fun s hs => ?_, fun x hx => ?_⟩, SectM.burnt_left h.left⟩
        · rcases List.mem_append.1 hx with hx | hx
          · exact h.late x hx
          · rw [List.mem_singleton] at hx; subst hx; show at_.toNat < n; omega
        · rcases List.mem_or_eq_of_mem_set hs with hs | hs
          · exact h.sz.2.1 s hs
          · rw [hs]; exact hp
        · rcases List.mem_append.1 hx with hx | hx
          · exact h.sz.2.2 x hx
          · rw [List.mem_singleton] at hx; subst hx; exact hp
  · exact h
theorem SectM.flush_good {n : Nat} {d : DiskM} (h : SectM.Good n d) : SectM.Good n (SectM.flush d) := by
  unfold SectM.flush
  split
  · obtain ⟨e1, e2, e3⟩ := SectM.burnt_eqs d
    exact ⟨h.seen, by rw [e2]; exact h.seen, by simp, ⟨h.sz.2.1, by rw [e2]; exact h.sz.2.1, by simp⟩, SectM.burnt_left h.left⟩
  · exact h
theorem SectM.fuse_good {n : Nat} {d : DiskM} (h : SectM.Good n d) (k : Int) : SectM.Good n (SectM.fuse d k) := by
  refine ⟨h.safe, h.seen, h.late, h.sz, ?_⟩
  unfold SectM.fuse
  dsimp only
  split <;> omega
theorem SectM.keepOn_len (keep : List Bool) : ∀ (l : List (Nat × ByteArray)) (i : Nat) (s : List ByteArray), (SectM.keepOn keep i l s).length = s.length
  | [], _, _ => rfl
  | (a, t) :: r, i, s => by
    unfold SectM.keepOn
    rw [SectM.keepOn_len keep r]
    split <;> simp
theorem SectM.keepOn_mem (keep : List Bool) (may : Nat → List ByteArray) : ∀ (l : List (Nat × ByteArray)) (i : Nat) (s : List ByteArray), (∀ x ∈ l, x.2 ∈ may x.1) → (∀ k (h : k < s.length), s[k] ∈ may k) → ∀ k (h : k < (SectM.keepOn keep i l s).length), (SectM.keepOn keep i l s)[k] ∈ may k
  | [], _, s, _, h2, k, h => h2 k h
  | (a, t) :: r, i, s, h1, h2, k, h => by
    have e : SectM.keepOn keep i ((a, t) :: r) s = SectM.keepOn keep (i + 1) r (if keep.getD i false = true then s.set a t else s) := rfl
    have h3 := SectM.keepOn_mem keep may r (i + 1) (if keep.getD i false = true then s.set a t else s) (fun x hx => h1 x (List.mem_cons_of_mem _ hx)) (by
      intro j hj
      split
      · rename_i hk
        rw [if_pos hk] at hj
        rw [List.getElem_set]
        split
        · rename_i ha; subst ha; exact h1 _ List.mem_cons_self
        · exact h2 j (by simpa using hj)
      · rename_i hk
        rw [if_neg hk] at hj
        exact h2 j hj) k (by rw [← e]; exact h)
    exact h3
theorem SectM.keepOn_sz (keep : List Bool) : ∀ (l : List (Nat × ByteArray)) (i : Nat) (s : List ByteArray), (∀ x ∈ l, x.2.size = 64) → (∀ x ∈ s, x.size = 64) → ∀ x ∈ SectM.keepOn keep i l s, x.size = 64
  | [], _, s, _, h2, x, h => h2 x h
  | (a, t) :: r, i, s, h1, h2, x, h => by
    have e : SectM.keepOn keep i ((a, t) :: r) s = SectM.keepOn keep (i + 1) r (if keep.getD i false = true then s.set a t else s) := rfl
    rw [e] at h
    refine SectM.keepOn_sz keep r (i + 1) _ (fun y hy => h1 y (List.mem_cons_of_mem _ hy)) (fun y hy => ?_) x h
    split at hy
    · rcases List.mem_or_eq_of_mem_set hy with hy | hy
      · exact h2 y hy
      · rw [hy]; exact h1 _ List.mem_cons_self
    · exact h2 y hy
theorem SectM.crash_good {n : Nat} {d : DiskM} (h : SectM.Good n d) (keep : List Bool) : SectM.Good n (SectM.crash d keep) :=
  ⟨(SectM.keepOn_len keep _ _ _).trans h.safe, (SectM.keepOn_len keep _ _ _).trans h.safe, fun x hx => (by cases hx), ⟨SectM.keepOn_sz keep _ _ _ h.sz.2.2 h.sz.1, SectM.keepOn_sz keep _ _ _ h.sz.2.2 h.sz.1, fun x hx => (by cases hx)⟩, by show (-1 : Int) ≤ -1; omega⟩

/-- What each sector may hold, and what is known of the disk. -/
structure SectM.Inv (d : DiskM) (may : Nat → List ByteArray) : Prop where
  good : SectM.Good 4 d
  last : ∀ k, k < 4 → (may k).getLast? = some (d.seen.getD k SectM.blank)
  safe : ∀ k, k < 4 → d.safe.getD k SectM.blank ∈ may k
  late : ∀ x ∈ d.late, x.2 ∈ may x.1
def SectM.tail (may : Nat → List ByteArray) : Nat → List ByteArray := fun k => [(may k).getLast?.getD SectM.blank]
def SectM.upd (may : Nat → List ByteArray) (k : Nat) (l : List ByteArray) : Nat → List ByteArray := fun j => if j = k then l else may j
theorem SectM.Inv.flush {d : DiskM} {may : Nat → List ByteArray} (h : SectM.Inv d may) (h0 : SectM.flushed d = 0) : SectM.Inv (SectM.flush d) (SectM.tail may) := by
  obtain ⟨e1, e2, e3⟩ := SectM.burnt_eqs d
  refine ⟨SectM.flush_good h.good, fun k hk => ?_, fun k hk => ?_, ?_⟩
  · unfold SectM.flush SectM.tail
    rw [if_pos h0, h.last k hk]
    simp only [e2, List.getLast?_singleton, Option.getD_some]
  · unfold SectM.flush SectM.tail
    rw [if_pos h0, h.last k hk]
    simp
  · unfold SectM.flush
    rw [if_pos h0]
    simp
theorem SectM.Inv.fuse {d : DiskM} {may : Nat → List ByteArray} (h : SectM.Inv d may) (n : Int) : SectM.Inv (SectM.fuse d n) may :=
  ⟨SectM.fuse_good h.good n, h.last, h.safe, h.late⟩
theorem SectM.Inv.write {d : DiskM} {may : Nat → List ByteArray} (h : SectM.Inv d may) {k : Nat} (hk : k < 4) {t : ByteArray} (h0 : SectM.wrote d k t = 0) : SectM.Inv (SectM.write d k t) (SectM.upd may k (may k ++ [SectM.pad t])) := by
  obtain ⟨e1, e2, e3⟩ := SectM.burnt_eqs d
  have hg := SectM.write_good h.good k t
  have hs := h.good.seen
  unfold SectM.write at hg ⊢
  rw [if_pos h0] at hg ⊢
  rw [show ((k : Int)).toNat = k by omega] at hg ⊢
  refine ⟨hg, fun j hj => ?_, fun j hj => ?_, fun x hx => ?_⟩
  · unfold SectM.upd
    by_cases e : j = k
    · subst e
      rw [if_pos rfl, List.getLast?_append, List.getLast?_singleton]
      simp [List.getD_eq_getElem?_getD, hs, hk]
    · rw [if_neg e, h.last j hj]
      simp only [List.getD_eq_getElem?_getD, List.getElem?_set_ne (Ne.symm e)]
  · show (SectM.burnt d).safe.getD j SectM.blank ∈ _
    rw [e1]
    unfold SectM.upd
    by_cases e : j = k
    · subst e; rw [if_pos rfl]; exact List.mem_append_left _ (h.safe j hj)
    · rw [if_neg e]; exact h.safe j hj
  · unfold SectM.upd
    rcases List.mem_append.1 hx with hx | hx
    · by_cases e : x.1 = k
      · rw [if_pos e, ← e]; exact List.mem_append_left _ (h.late x hx)
      · rw [if_neg e]; exact h.late x hx
    · rw [List.mem_singleton] at hx; subst hx
      rw [if_pos rfl]; simp
theorem SectM.Inv.crash {d : DiskM} {may : Nat → List ByteArray} (h : SectM.Inv d may) (keep : List Bool) {k : Nat} (hk : k < 4) : (SectM.crash d keep).seen.getD k SectM.blank ∈ may k := by
  have h1 := SectM.keepOn_mem keep (fun j => if j < 4 then may j else [d.safe.getD j SectM.blank]) d.late 0 d.safe (fun x hx => by
    rw [if_pos (h.good.late x hx)]; exact h.late x hx) (fun j hj => by
    rw [if_pos (by have := h.good.safe; omega)]
    have := h.safe j (by have := h.good.safe; omega)
    rwa [List.getD_eq_getElem?_getD, List.getElem?_eq_getElem hj] at this) k (by rw [SectM.keepOn_len, h.good.safe]; exact hk)
  rw [if_pos hk] at h1
  show (SectM.keepOn keep 0 d.late d.safe).getD k SectM.blank ∈ may k
  rw [List.getD_eq_getElem?_getD, List.getElem?_eq_getElem (by rw [SectM.keepOn_len, h.good.safe]; exact hk)]
  exact h1
end Go.Proofs.YtpeaefeoogcepaaDoor
