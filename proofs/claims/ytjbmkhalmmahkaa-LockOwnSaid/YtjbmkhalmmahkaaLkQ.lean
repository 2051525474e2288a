/- Tables of locks, in plain Lean: who waits for whom. -/
import Derived.Test.YtjbmkhalmmahkaaLkL
import Derived.Test.YtjbmkhalmmahkaaGrB
namespace Go.Proofs.Ytjbmkhalmmahkaa
namespace LkM
abbrev Tb := Nat → Nat → Bool
def set2 (f : Tb) (a b : Nat) (v : Bool) : Tb := fun x y => if x = a ∧ y = b then v else f x y
def Le (f g : Tb) : Prop := ∀ x y, f x y = true → g x y = true
def markH (w : LkM) (m : Int) (f : Tb) (l : List LkM) : Tb := l.foldl (fun f h => set2 f w.tx.toNat h.tx.toNat (f w.tx.toNat h.tx.toNat || bars w.tx m h)) f
def markV (w : LkM) (f : Tb) (l : List LkM) : Tb := l.foldl (fun f v => set2 f w.tx.toNat v.tx.toNat true) f
/-- The first k of a queue. -/
def markQ (x : LiM) (f : Tb) : Nat → Tb
  | 0 => f
  | k + 1 => match x.queue[k]? with
    | some w => markV w (markH w (wish x.held w) (markQ x f k) x.held) (x.queue.take k)
    | none => markQ x f k
def markT (f : Tb) (t : List LiM) : Tb := t.foldl (fun f x => markQ x f x.queue.length) f
def edgesTo (f : Tb) (a : Nat) (k : Nat) : List EgM := ((List.range k).filter (f a)).map fun (b : Nat) => ⟨(a : Int), (b : Int)⟩
def edgesOf (f : Tb) (k : Nat) : List EgM := (List.range k).flatMap fun a => edgesTo f a 12
def waits (t : List LiM) : List EgM := edgesOf (markT (fun _ _ => false) t) 12
theorem Le.refl (f : Tb) : Le f f := fun _ _ h => h
theorem Le.trans {f g h : Tb} (a : Le f g) (b : Le g h) : Le f h := fun x y hx => b x y (a x y hx)
theorem le_set {f : Tb} {a b : Nat} {v : Bool} (h : f a b = true → v = true) : Le f (set2 f a b v) := fun x y hx => by
  unfold set2
  split
  · rename_i e; rw [e.1, e.2] at hx; exact h hx
  · exact hx
theorem set_at (f : Tb) (a b : Nat) (v : Bool) : set2 f a b v a b = v := by unfold set2; simp
theorem markH_le (w : LkM) (m : Int) : ∀ (l : List LkM) (f : Tb), Le f (markH w m f l)
  | [], f => Le.refl f
  | h :: r, f => (le_set (fun e => by rw [e]; rfl)).trans (markH_le w m r _)
theorem markV_le (w : LkM) : ∀ (l : List LkM) (f : Tb), Le f (markV w f l)
  | [], f => Le.refl f
  | _ :: r, _ => (le_set (fun _ => rfl)).trans (markV_le w r _)
theorem markQ_le (x : LiM) (f : Tb) : ∀ k, Le f (markQ x f k)
  | 0 => Le.refl f
  | k + 1 => by
    unfold markQ
    split
    · exact (markQ_le x f k).trans ((markH_le _ _ _ _).trans (markV_le _ _ _))
    · exact markQ_le x f k
theorem markQ_mono (x : LiM) (f : Tb) {j : Nat} : ∀ k, j ≤ k → Le (markQ x f j) (markQ x f k)
  | 0, h => by obtain rfl : j = 0 := by omega
               exact Le.refl _
  | k + 1, h => by
    by_cases e : j = k + 1
    · subst e; exact Le.refl _
    · refine (markQ_mono x f k (by omega)).trans ?_
      conv => rhs; unfold markQ
      split
      · exact (markH_le _ _ _ _).trans (markV_le _ _ _)
      · exact Le.refl _
theorem markT_le : ∀ (t : List LiM) (f : Tb), Le f (markT f t)
  | [], f => Le.refl f
  | x :: r, f => (markQ_le x f _).trans (markT_le r _)
theorem markH_hit (w : LkM) (m : Int) : ∀ (l : List LkM) (f : Tb) (h : LkM), h ∈ l → bars w.tx m h = true → markH w m f l w.tx.toNat h.tx.toNat = true
  | [], f, h, hh, _ => by cases hh
  | a :: r, f, h, hh, hb => by
    rcases List.mem_cons.1 hh with rfl | hh
    · exact markH_le w m r _ _ _ ((set_at _ _ _ _).trans (by rw [hb, Bool.or_true]))
    · exact markH_hit w m r _ h hh hb
theorem markV_hit (w : LkM) : ∀ (l : List LkM) (f : Tb) (h : LkM), h ∈ l → markV w f l w.tx.toNat h.tx.toNat = true
  | [], f, h, hh => by cases hh
  | a :: r, f, h, hh => by
    rcases List.mem_cons.1 hh with rfl | hh
    · exact markV_le w r _ _ _ (set_at _ _ _ _)
    · exact markV_hit w r _ h hh
theorem markQ_hit {x : LiM} (h : Ok x) (f : Tb) {k : Nat} (hk : k < x.queue.length) : ∃ b : Nat, b < 12 ∧ markQ x f (k + 1) x.queue[k].tx.toNat b = true := by
  have e : markQ x f (k + 1) = markV x.queue[k] (markH x.queue[k] (wish x.held x.queue[k]) (markQ x f k) x.held) (x.queue.take k) := by
    conv => lhs; unfold markQ
    rw [List.getElem?_eq_getElem hk]
  rw [e]
  clear e
  rcases (show k = 0 ∨ ∃ j, k = j + 1 by cases k with | zero => exact Or.inl rfl | succ j => exact Or.inr ⟨j, rfl⟩) with rfl | ⟨j, rfl⟩
  ·
    have hq : x.queue = x.queue[0] :: x.queue.drop 1 := by
      have := List.drop_eq_getElem_cons hk
      rwa [List.drop_zero] at this
    obtain ⟨y, hy, hne, hb⟩ := can_false.1 (h.first _ _ hq)
    have hd := h.held.dom y hy
    refine ⟨y.tx.toNat, by omega, markV_le _ _ _ _ _ (markH_hit _ _ _ _ y hy ?_)⟩
    unfold bars
    rw [hb]; simpa using hne
  · have hj : j < x.queue.length := by omega
    have hd := h.queue.dom _ (List.getElem_mem hj)
    refine ⟨x.queue[j].tx.toNat, by omega, ?_⟩
    exact markV_hit _ _ _ _ (by rw [List.take_succ_eq_append_getElem hj]; exact List.mem_append_right _ (List.mem_singleton.2 rfl))
theorem markT_hit : ∀ (t : List LiM) (f : Tb), (∀ x ∈ t, Ok x) → ∀ x ∈ t, ∀ w ∈ x.queue, ∃ b : Nat, b < 12 ∧ markT f t w.tx.toNat b = true
  | [], f, _, x, hx, _, _ => by cases hx
  | y :: r, f, h, x, hx, w, hw => by
    rcases List.mem_cons.1 hx with rfl | hx
    · obtain ⟨k, hk, rfl⟩ := List.mem_iff_getElem.1 hw
      obtain ⟨b, hb, hm⟩ := markQ_hit (h x List.mem_cons_self) f hk
      exact ⟨b, hb, markT_le r _ _ _ (markQ_mono x f _ (by omega) _ _ hm)⟩
    · exact markT_hit r _ (fun z hz => h z (List.mem_cons_of_mem _ hz)) x hx w hw
theorem mem_edgesOf {f : Tb} {k : Nat} {e : EgM} : e ∈ edgesOf f k ↔ ∃ a b : Nat, e = ⟨a, b⟩ ∧ a < k ∧ b < 12 ∧ f a b = true := by
  unfold edgesOf edgesTo
  rw [List.mem_flatMap]
  constructor
  · rintro ⟨a, ha, hm⟩
    obtain ⟨b, hb, rfl⟩ := List.mem_map.1 hm
    obtain ⟨h1, h2⟩ := List.mem_filter.1 hb
    exact ⟨a, b, rfl, List.mem_range.1 ha, List.mem_range.1 h1, h2⟩
  · rintro ⟨a, b, rfl, ha, hb, hf⟩
    exact ⟨a, List.mem_range.2 ha, List.mem_map.2 ⟨b, List.mem_filter.2 ⟨List.mem_range.2 hb, hf⟩, rfl⟩⟩
/-- Who waits has an edge to someone. -/
theorem waits_hit {t : List LiM} (h : Good t) {x : LiM} (hx : x ∈ t) {w : LkM} (hw : w ∈ x.queue) : ∃ e ∈ waits t, e.frm = w.tx := by
  obtain ⟨b, hb, hm⟩ := markT_hit t (fun _ _ => false) h.ok x hx w hw
  have hd := (h.ok x hx).queue.dom w hw
  exact ⟨⟨(w.tx.toNat : Int), (b : Int)⟩, mem_edgesOf.2 ⟨_, b, rfl, by omega, hb, hm⟩, by show ((w.tx.toNat : Nat) : Int) = w.tx; omega⟩
end LkM
end Go.Proofs.Ytjbmkhalmmahkaa
